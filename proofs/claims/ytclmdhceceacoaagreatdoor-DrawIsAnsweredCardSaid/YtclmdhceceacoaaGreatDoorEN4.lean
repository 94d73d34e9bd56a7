/-
 Rules by which values are reckoned; and how a call is met.
 Conditions: none; laws.
-/
import Derived.Test.YtclmdhceceacoaaGreatDoorEN3
namespace Go.E2
theorem wrap_i64 {x:Int} (h1:-9223372036854775808≤x) (h2:x≤9223372036854775807):IntKind.i64.wrap x=x:=by
 have e:IntKind.i64.wrap x=if x % 18446744073709551616 ≥ 9223372036854775808 then x % 18446744073709551616 - 18446744073709551616 else x % 18446744073709551616:=by simp [IntKind.wrap,IntKind.signed,IntKind.bits]
 rw [e]; split<;>omega
theorem wrap_i32 {x:Int} (h1:-2147483648≤x) (h2:x≤2147483647):IntKind.i32.wrap x=x:=by
 have e:IntKind.i32.wrap x=if x % 4294967296 ≥ 2147483648 then x % 4294967296 - 4294967296 else x % 4294967296:=by simp [IntKind.wrap,IntKind.signed,IntKind.bits]
 rw [e]; split<;>omega
theorem wrap_u64 {x:Int} (h1:0≤x) (h2:x≤18446744073709551615):IntKind.u64.wrap x=x:=by
 simp only [IntKind.wrap,IntKind.signed,IntKind.bits]; simp; omega
theorem wrap_u32 {x:Int} (h1:0≤x) (h2:x≤4294967295):IntKind.u32.wrap x=x:=by
 simp only [IntKind.wrap,IntKind.signed,IntKind.bits]; simp; omega
theorem wrap_u16 {x:Int} (h1:0≤x) (h2:x≤65535):IntKind.u16.wrap x=x:=by
 simp only [IntKind.wrap,IntKind.signed,IntKind.bits]; simp; omega
theorem wrap_u8 {x:Int} (h1:0≤x) (h2:x≤255):IntKind.u8.wrap x=x:=by
 simp only [IntKind.wrap,IntKind.signed,IntKind.bits]; simp; omega
attribute [go_sem] wrap_i64 wrap_i32 wrap_u64 wrap_u32 wrap_u16 wrap_u8
section
variable (k:IntKind) (a b:Int) (s t:List UInt8)
@[go_sem] theorem binD_add:binD .add (.int k a) (.int k b)=some (.int k (k.wrap (a + b))):=by simp [binD]
@[go_sem] theorem binD_sub:binD .sub (.int k a) (.int k b)=some (.int k (k.wrap (a - b))):=by simp [binD]
@[go_sem] theorem binD_mul:binD .mul (.int k a) (.int k b)=some (.int k (k.wrap (a * b))):=by simp [binD]
@[go_sem] theorem binD_eql:binD .eql (.int k a) (.int k b)=some (.bool (decide (a=b))):=by by_cases h:a=b<;>simp [binD,h]
@[go_sem] theorem binD_neq:binD .neq (.int k a) (.int k b)=some (.bool (decide (¬ a=b))):=by by_cases h:a=b<;>simp [binD,h]
@[go_sem] theorem binD_lss:binD .lss (.int k a) (.int k b)=some (.bool (decide (a < b))):=by simp [binD]
@[go_sem] theorem binD_leq:binD .leq (.int k a) (.int k b)=some (.bool (decide (a≤b))):=by simp [binD]
@[go_sem] theorem binD_gtr:binD .gtr (.int k a) (.int k b)=some (.bool (decide (b < a))):=by simp [binD]
@[go_sem] theorem binD_geq:binD .geq (.int k a) (.int k b)=some (.bool (decide (b≤a))):=by simp [binD]
@[go_sem] theorem binD_quo (h:b ≠ 0):binD .quo (.int k a) (.int k b)=some (.int k (k.wrap (a.tdiv b))):=by simp [binD,h]
@[go_sem] theorem binD_rem (h:b ≠ 0):binD .rem (.int k a) (.int k b)=some (.int k (a.tmod b)):=by simp [binD,h]
@[go_sem] theorem binD_shr (k':IntKind) (h:0≤b) (_ha:0≤a):binD .shr (.int k a) (.int k' b)=some (.int k (a / 2 ^ (if b.toNat≤k.bits then b.toNat else k.bits))):=by
  rw [← Nat.min_def]
  have hb:¬ b < 0:=by omega
  simp only [binD,if_neg hb]
  rw [Int.fdiv_eq_ediv_of_nonneg _ (Int.pow_nonneg (by omega))]
@[go_sem] theorem binD_shl (k':IntKind) (h:0≤b):binD .shl (.int k a) (.int k' b)=some (.int k (k.wrap (a * 2 ^ (if b.toNat≤k.bits then b.toNat else k.bits)))):=by
  rw [← Nat.min_def]
  have hb:¬ b < 0:=by omega
  simp only [binD,if_neg hb]
@[go_sem] theorem binD_seql:binD .eql (.str s) (.str t)=some (.bool (decide (s=t))):=by simp only [binD]; congr 2; by_cases h:s=t<;>simp [h]
@[go_sem] theorem binD_sneq:binD .neq (.str s) (.str t)=some (.bool (decide (¬ s=t))):=by simp only [binD]; congr 2; by_cases h:s=t<;>simp [h]
@[go_sem] theorem binD_sadd (h:s.length + t.length < 4611686018427387904):binD .add (.str s) (.str t)=some (.str (s ++ t)):=by simp only [binD,h,if_true]
end
@[go_sem] theorem and_decide (p q:Prop) [Decidable p] [Decidable q]:(decide p && decide q)=decide (p∧q):=by simp
@[go_sem] theorem bits_i64:IntKind.i64.bits=64:=rfl
@[go_sem] theorem bits_u64:IntKind.u64.bits=64:=rfl
@[go_sem] theorem bits_u32:IntKind.u32.bits=32:=rfl
@[go_sem] theorem bits_u8:IntKind.u8.bits=8:=rfl
@[go_sem] theorem not_decide (p:Prop) [Decidable p]:(!decide p)=decide (¬ p):=by simp
attribute [go_sem] sizeOk over D.cells D.one List.length_map List.length_cons List.length_nil List.length_append Option.map_some Option.map_none List.all_cons List.all_nil Bool.and_true Bool.and_self Bool.true_and List.take_succ_cons List.take_zero List.drop_succ_cons List.drop_zero List.head?_cons
 List.cons_append List.nil_append List.append_nil List.map_cons List.map_nil datas Bool.or_true Bool.or_false Bool.true_or Bool.false_or beq_self_eq_true Bool.and_false Bool.false_and srcD resAll List.zip_cons_cons List.zip_nil_left List.foldl_cons List.foldl_nil Option.bind_some List.getElem?_map Int.toNat_natCast
 List.replicate_succ List.replicate_zero List.set_cons_zero List.set_cons_succ Option.getD_some Option.getD_none List.map_append
section
variable {ρ:Env} {lv:List Hp} {G:Gh}
def vPick (c a b:AV):Option AV:=match c with|.d (.bool t)=>some (if t then a else b)|_=>none
@[go_sem] theorem evP_pick (c a b:AO):evP ρ lv G (.pick c a b)=vPick (ev ρ c) (ev ρ a).cp (ev ρ b).cp:=by
  simp only [evP,vPick]; cases ev ρ c with
  | d x=>cases x with
    | bool t=>cases t<;>rfl
    | _=>rfl
  | _=>rfl
@[go_sem] theorem vPick_t (a b:AV):vPick (.d (.bool true)) a b=some a:=rfl
@[go_sem] theorem vPick_f (a b:AV):vPick (.d (.bool false)) a b=some b:=rfl
def vBuild (z:List D) (ps:List (Nat × Nat × AO)) (vs:Option (List D)):Option AV:=match vs with
 | some vs=>(fillD z ((ps.zip vs).map fun (p,v)=>(p.1,p.2.1,v))).bind fun cs=>if cs.all D.one then some (.d (.agg cs)) else none
 | none=>none
@[go_sem] theorem evP_build (z:List D) (ps:List (Nat × Nat × AO)):evP ρ lv G (.build z ps)=vBuild z ps (datas ρ (ps.map (·.2.2))):=rfl
@[go_sem] theorem vBuild_mk (z:List D) (ps:List (Nat × Nat × AO)) (vs:List D):vBuild z ps (some vs)=(fillD z ((ps.zip vs).map fun (p,v)=>(p.1,p.2.1,v))).bind fun cs=>if cs.all D.one then some (.d (.agg cs)) else none:=rfl
@[go_sem] theorem fillD_nil (z:List D):fillD z []=some z:=rfl
@[go_sem] theorem fillD_cons (z:List D) (off size:Nat) (v:D) (ps:List (Nat × Nat × D)):fillD z ((off,size,v)::ps)=if v.cells.length=size∧off + size≤z.length then fillD (over z v.cells off) ps else none:=rfl
def vMks (sz n:Nat) (z:D) (ps:List (Nat × AO)) (vs:Option (List D)):Option AV:=match vs with
 | some vs=>let es:=(ps.zip vs).foldl (fun es (p,v)=>es.set p.1 v) (List.replicate n z)
   if vs.all (sizeOk sz) && sizeOk sz z && (ps.all fun p=>p.1 < n) then some (.own sz es) else none
 | none=>none
@[go_sem] theorem evP_mkslice (sz n:Nat) (z:D) (ps:List (Nat × AO)):evP ρ lv G (.mkslice sz n z ps)=vMks sz n z ps (datas ρ (ps.map (·.2))):=rfl
@[go_sem] theorem vMks_mk (sz n:Nat) (z:D) (ps:List (Nat × AO)) (vs:List D):vMks sz n z ps (some vs)=if (vs.all (sizeOk sz) && sizeOk sz z && (ps.all fun p=>p.1 < n))=true then some (.own sz ((ps.zip vs).foldl (fun es (p,v)=>es.set p.1 v) (List.replicate n z))) else none:=rfl
def vLoad (agg:Bool) (n:Nat) (r:Root) (lv:List Hp) (G:Gh) (v:AV):Option AV:=match v with
 | .ptr k s g off=>if rootOk r k s then (match blk lv k s g with|some cs=>(loadD agg n (cs.drop off)).map .d|none=>none) else none
 | .cptr cs=>(loadD agg n cs).map .d
 | .d (.gp b off)=>if r.foreignOk then (match G b with|some cs=>(loadD agg n (cs.drop off)).map .d|none=>none) else none
 | _=>none
@[go_sem] theorem evP_load (agg:Bool) (n:Nat) (x:AO) (r:Root):evP ρ lv G (.load agg n x r)=vLoad agg n r lv G (ev ρ x):=rfl
def vCells (agg:Bool) (n:Nat) (cs:Option (List D)) (off:Nat):Option AV:=match cs with|some cs=>(loadD agg n (cs.drop off)).map .d|none=>none
@[go_sem] theorem vCells_mk (agg:Bool) (n:Nat) (cs:List D) (off:Nat):vCells agg n (some cs) off=(loadD agg n (cs.drop off)).map .d:=rfl
@[go_sem] theorem vLoad_ptrA (agg:Bool) (n k s g off:Nat):vLoad agg n .any lv G (.ptr k s g off)=vCells agg n (blk lv k s g) off:=by simp [vLoad,vCells,rootOk]
@[go_sem] theorem vLoad_ptrS (agg:Bool) (n s g off:Nat):vLoad agg n (.site s) lv G (.ptr 0 s g off)=vCells agg n (blk lv 0 s g) off:=by simp [vLoad,vCells,rootOk]
@[go_sem] theorem vLoad_ptrF (agg:Bool) (n k s g off:Nat):vLoad agg n .foreign lv G (.ptr (k + 1) s g off)=vCells agg n (blk lv (k + 1) s g) off:=by simp [vLoad,vCells,rootOk]
@[go_sem] theorem vLoad_cptr (agg:Bool) (n:Nat) (r:Root) (cs:List D):vLoad agg n r lv G (.cptr cs)=(loadD agg n cs).map .d:=rfl
@[go_sem] theorem vLoad_gpA (agg:Bool) (n b off:Nat):vLoad agg n .any lv G (.d (.gp b off))=vCells agg n (G b) off:=by simp [vLoad,vCells,Root.foreignOk]
@[go_sem] theorem vLoad_gpF (agg:Bool) (n b off:Nat):vLoad agg n .foreign lv G (.d (.gp b off))=vCells agg n (G b) off:=by simp [vLoad,vCells,Root.foreignOk]
@[go_sem] theorem loadD_t (n:Nat) (cs:List D):loadD true n cs=if n≤cs.length then some (.agg (cs.take n)) else none:=rfl
@[go_sem] theorem loadD_f (n:Nat) (cs:List D):loadD false n cs=cs.head?:=rfl
@[go_sem] theorem rootOk_any (k s:Nat):rootOk .any k s=true:=rfl
@[go_sem] theorem rootOk_site (r k s:Nat):rootOk (.site r) k s=(k == 0 && s == r):=rfl
@[go_sem] theorem rootOk_for (k s:Nat):rootOk .foreign k s=(k != 0):=rfl
@[go_sem] theorem forOk_any:Root.foreignOk .any=true:=rfl
@[go_sem] theorem forOk_for:Root.foreignOk .foreign=true:=rfl
@[go_sem] theorem forOk_gp:Root.foreignOk .gp=true:=rfl
def vNilck (v:AV):Option AV:=match v with|.ptr k s g off=>some (.ptr k s g off)|.cptr cs=>some (.cptr cs)|.func f c=>some (.func f c)|.d (.fn f)=>some (.d (.fn f))|.d (.gp b off)=>some (.d (.gp b off))|.d (.clo f ds)=>some (.d (.clo f ds))|.d (.yld l)=>some (.d (.yld l))|_=>none
@[go_sem] theorem evP_nilck (x:AO):evP ρ lv G (.nilck x)=vNilck (ev ρ x):=rfl
@[go_sem] theorem vNilck_clo (f:FuncId) (ds:List D):vNilck (.d (.clo f ds))=some (.d (.clo f ds)):=rfl
@[go_sem] theorem vNilck_yld (l:Nat):vNilck (.d (.yld l))=some (.d (.yld l)):=rfl
@[go_sem] theorem vNilck_ptr (k s g off:Nat):vNilck (.ptr k s g off)=some (.ptr k s g off):=rfl
@[go_sem] theorem vNilck_cptr (cs:List D):vNilck (.cptr cs)=some (.cptr cs):=rfl
@[go_sem] theorem vNilck_func (f:FuncId) (c:List (Nat × Nat × Nat)):vNilck (.func f c)=some (.func f c):=rfl
@[go_sem] theorem vNilck_fn (f:FuncId):vNilck (.d (.fn f))=some (.d (.fn f)):=rfl
@[go_sem] theorem vNilck_gp (b off:Nat):vNilck (.d (.gp b off))=some (.d (.gp b off)):=rfl
def vBin (op:BinOp) (x y:AV):Option AV:=match x,y with|.d a,.d b=>(binD op a b).map .d|_,_=>none
@[go_sem] theorem evP_bin (op:BinOp) (x y:AO):evP ρ lv G (.bin op x y)=vBin op (ev ρ x) (ev ρ y):=rfl
@[go_sem] theorem vBin_d (op:BinOp) (a b:D):vBin op (.d a) (.d b)=(binD op a b).map .d:=rfl
def vEqs (neg:Bool) (ks:List Kd) (x y:AV):Option AV:=match x,y with|.d (.agg a),.d (.agg b)=>(cellsEq ks a b).map fun t=>.d (.bool (if neg then !t else t))|_,_=>none
@[go_sem] theorem evP_eqs (neg:Bool) (ks:List Kd) (x y:AO):evP ρ lv G (.eqs neg ks x y)=vEqs neg ks (ev ρ x) (ev ρ y):=rfl
@[go_sem] theorem vEqs_f (ks:List Kd) (a b:List D):vEqs false ks (.d (.agg a)) (.d (.agg b))=(cellsEq ks a b).map fun t=>.d (.bool t):=rfl
@[go_sem] theorem vEqs_t (ks:List Kd) (a b:List D):vEqs true ks (.d (.agg a)) (.d (.agg b))=(cellsEq ks a b).map fun t=>.d (.bool (!t)):=rfl
@[go_sem] theorem cellsEq_nil:cellsEq [] [] []=some true:=rfl
@[go_sem] theorem cellsEq_b (a b:Bool) (ks:List Kd) (xs ys:List D):cellsEq (.b::ks) (.bool a::xs) (.bool b::ys)=(cellsEq ks xs ys).map fun c=>((a == b) && c):=by simp only [cellsEq,cellEq]; cases cellsEq ks xs ys<;>rfl
@[go_sem] theorem cellsEq_i (k:IntKind) (a b:Int) (ks:List Kd) (xs ys:List D):cellsEq (.i::ks) (.int k a::xs) (.int k b::ys)=(cellsEq ks xs ys).map fun c=>(decide (a=b) && c):=by
  have e:(a == b)=decide (a=b):=by by_cases h:a=b<;>simp [h]
  simp only [cellsEq,cellEq,if_true,e]; cases cellsEq ks xs ys<;>rfl
@[go_sem] theorem cellsEq_s (a b:List UInt8) (ks:List Kd) (xs ys:List D):cellsEq (.s::ks) (.str a::xs) (.str b::ys)=(cellsEq ks xs ys).map fun c=>(decide (a=b) && c):=by
  have e:(a == b)=decide (a=b):=by by_cases h:a=b<;>simp [h]
  simp only [cellsEq,cellEq,e]; cases cellsEq ks xs ys<;>rfl
def vEqb (neg:Bool) (x y:AV):Option AV:=match x,y with|.d (.bool a),.d (.bool b)=>some (.d (.bool (if neg then !(a == b) else a == b)))|_,_=>none
@[go_sem] theorem evP_eqb (neg:Bool) (x y:AO):evP ρ lv G (.eqb neg x y)=vEqb neg (ev ρ x) (ev ρ y):=rfl
@[go_sem] theorem vEqb_t (a b:Bool):vEqb true (.d (.bool a)) (.d (.bool b))=some (.d (.bool (!(a == b)))):=rfl
@[go_sem] theorem vEqb_f (a b:Bool):vEqb false (.d (.bool a)) (.d (.bool b))=some (.d (.bool (a == b))):=rfl
def vNot (x:AV):Option AV:=match x with|.d (.bool b)=>some (.d (.bool (!b)))|_=>none
@[go_sem] theorem evP_not (x:AO):evP ρ lv G (.not x)=vNot (ev ρ x):=rfl
@[go_sem] theorem vNot_b (b:Bool):vNot (.d (.bool b))=some (.d (.bool (!b))):=rfl
def vNeg (x:AV):Option AV:=match x with|.d (.int k n)=>some (.d (.int k (k.wrap (0 - n))))|_=>none
@[go_sem] theorem evP_neg (x:AO):evP ρ lv G (.neg x)=vNeg (ev ρ x):=rfl
@[go_sem] theorem vNeg_i (k:IntKind) (n:Int):vNeg (.d (.int k n))=some (.d (.int k (k.wrap (0 - n)))):=rfl
def vConv (k:IntKind) (x:AV):Option AV:=match x with|.d (.int _ n)=>some (.d (.int k (k.wrap n)))|_=>none
@[go_sem] theorem evP_conv (k:IntKind) (x:AO):evP ρ lv G (.conv k x)=vConv k (ev ρ x):=rfl
@[go_sem] theorem vConv_i (k k':IntKind) (n:Int):vConv k (.d (.int k' n))=some (.d (.int k (k.wrap n))):=rfl
def capsOf:List AV→Option (List (Nat × Nat × Nat))
 | []=>some []
 | v::vs=>match capOf v,capsOf vs with|some c,some cs=>some (c::cs)|_,_=>none
@[go_sem] theorem evP_mkfunc (f:FuncId) (caps:List AO):evP ρ lv G (.mkfunc f caps)=(capsOf (caps.map (ev ρ))).map (.func f):=by
  have:∀ caps:List AO,(caps.mapM fun o=>capOf (ev ρ o))=capsOf (caps.map (ev ρ)):=by
   intro caps
   induction caps with
   | nil=>rfl
   | cons c cs ih =>
    simp only [List.mapM_cons,List.map_cons,capsOf,ih]
    cases capOf (ev ρ c) with
    | none=>rfl
    | some x=>cases capsOf (cs.map (ev ρ))<;>rfl
  simp only [evP,this]
@[go_sem] theorem capsOf_nil:capsOf []=some []:=rfl
@[go_sem] theorem capsOf_cons (k s g:Nat) (vs:List AV):capsOf (.ptr k s g 0::vs)=(capsOf vs).map fun cs=>(k,s,g)::cs:=by simp only [capsOf,capOf]; cases capsOf vs<;>rfl
def vSl0 (sz:Nat) (x:Option D):Option AV:=match x with|some .nilS=>some (.d .nilS)|some (.list _)=>some (.own sz [])|_=>none
@[go_sem] theorem evP_sl0 (sz:Nat) (x:AO):evP ρ lv G (.sl0 sz x)=vSl0 sz (ev ρ x).data:=rfl
def vSl3L (sz:Nat) (x:Option D) (h m:AV):Option AV:=match x,h,m with|some (.list es),.d (.int .i64 a),.d (.int .i64 b)=>if es.all (sizeOk sz)=true∧a=es.length∧b=es.length then some (.own sz es) else none|_,_,_=>none
@[go_sem] theorem evP_sl3L (sz:Nat) (x y z:AO):evP ρ lv G (.sl3L sz x y z)=vSl3L sz (ev ρ x).data (ev ρ y) (ev ρ z):=rfl
@[go_sem] theorem vSl3L_list (sz:Nat) (es:List D) (a b:Int) (h1:a=es.length) (h2:b=es.length):vSl3L sz (some (.list es)) (.d (.int .i64 a)) (.d (.int .i64 b))=if es.all (sizeOk sz)=true then some (.own sz es) else none:=by
  simp only [vSl3L,h1,h2,and_self,and_true]
@[go_sem] theorem vSl0_nil (sz:Nat):vSl0 sz (some .nilS)=some (.d .nilS):=rfl
@[go_sem] theorem vSl0_list (sz:Nat) (es:List D):vSl0 sz (some (.list es))=some (.own sz []):=rfl
def vInt:AV→Option Int|.d (.int _ n)=>some n|_=>none
@[go_sem] theorem vInt_i (k:IntKind) (n:Int):vInt (.d (.int k n))=some n:=rfl
@[go_sem] theorem bnd_none (d:Nat):bnd ρ d none=some (d:Int):=rfl
@[go_sem] theorem bnd_some (d:Nat) (o:AO):bnd ρ d (some o)=vInt (ev ρ o):=rfl
def vSlL (sz:Nat) (x:Option D) (lo:Option Int):Option AV :=
 match x,lo with
 | some (.list es),some l=>if es.all (sizeOk sz) then (if 0≤l∧l≤es.length then some (.d (.list (es.drop l.toNat))) else none) else none
 | some .nilS,some l=>if l=0 then some (.d .nilS) else none
 | some (.gs b off len cap),some l=>if 0≤l∧l≤len∧(len:Int)≤cap then some (.d (.gs b (if cap=l.toNat then off else off + l.toNat * sz) (len - l.toNat) (cap - l.toNat))) else none
 | _,_=>none
def vSlH (sz:Nat) (x:Option D) (lo hi:Option Int):Option AV :=
 match x,lo,hi with
 | some (.list es),some l,some h=>if es.all (sizeOk sz) then (if 0≤l∧l≤h∧h≤es.length then some (.d (.list ((es.take h.toNat).drop l.toNat))) else none) else none
 | some .nilS,some l,some h=>if l=0∧h=0 then some (.d .nilS) else none
 | some (.gs b off _ cap),some l,some h=>if 0≤l∧l≤h∧h≤cap then some (.d (.gs b (if cap=l.toNat then off else off + l.toNat * sz) (h.toNat - l.toNat) (cap - l.toNat))) else none
 | _,_,_=>none
@[go_sem] theorem evP_slL (sz:Nat) (x:AO) (lo:Option AO):evP ρ lv G (.sl sz x lo none)=vSlL sz (ev ρ x).data (bnd ρ 0 lo):=by
  have e:∀ n,bnd ρ n none=some (n:Int):=fun _=>rfl
  simp only [evP,vSlL,e]
  generalize (ev ρ x).data=o
  generalize bnd ρ 0 lo=l
  cases o with
  | none=>rfl
  | some d =>
   cases d with
   | list es =>
    cases l with
    | none=>by_cases h:es.all (sizeOk sz)=true<;>simp [h]
    | some l =>
     by_cases h:es.all (sizeOk sz)=true
     · by_cases h2:0≤l∧l≤es.length<;>simp [h,h2]
     · simp [h]
   | nilS=>cases l<;>simp
   | gs b off len cap=>cases l<;>simp
   | _=>cases l<;>rfl
@[go_sem] theorem evP_slH (sz:Nat) (x:AO) (lo:Option AO) (h:AO):evP ρ lv G (.sl sz x lo (some h))=vSlH sz (ev ρ x).data (bnd ρ 0 lo) (vInt (ev ρ h)):=by
  have e:∀ n,bnd ρ n (some h)=vInt (ev ρ h):=fun n=>rfl
  simp only [evP,vSlH,e]
  generalize (ev ρ x).data=o
  generalize bnd ρ 0 lo=l
  generalize vInt (ev ρ h)=k
  cases o with
  | none=>rfl
  | some d =>
   cases d with
   | list es=>cases l<;>cases k<;>by_cases h:es.all (sizeOk sz)<;>simp [h]
   | nilS=>cases l<;>cases k<;>simp
   | gs b off len cap=>cases l<;>cases k<;>simp
   | _=>rfl
@[go_sem] theorem vSlL_list (sz:Nat) (es:List D) (l:Int) (h1:0≤l) (h2:l≤es.length):vSlL sz (some (.list es)) (some l)=if es.all (sizeOk sz)=true then some (.d (.list (es.drop l.toNat))) else none:=by simp only [vSlL,h1,h2,and_self,if_true]
@[go_sem] theorem vSlL_nil (sz:Nat) (l:Int) (h:l=0):vSlL sz (some .nilS) (some l)=some (.d .nilS):=by simp only [vSlL,h,if_true]
@[go_sem] theorem vSlL_gs (sz b off len cap:Nat) (l:Int) (h1:0≤l) (h2:l≤len) (h3:len≤cap):vSlL sz (some (.gs b off len cap)) (some l)=some (.d (.gs b (if cap=l.toNat then off else off + l.toNat * sz) (len - l.toNat) (cap - l.toNat))):=by
  have h3':(len:Int)≤cap:=by omega
  simp only [vSlL,h1,h2,h3',and_self,if_true]
@[go_sem] theorem vSlH_list (sz:Nat) (es:List D) (l h:Int) (h1:0≤l) (h2:l≤h) (h3:h≤es.length):vSlH sz (some (.list es)) (some l) (some h)=if es.all (sizeOk sz)=true then some (.d (.list ((es.take h.toNat).drop l.toNat))) else none:=by simp only [vSlH,h1,h2,h3,and_self,if_true]
@[go_sem] theorem vSlH_nil (sz:Nat) (l h:Int) (h1:l=0) (h2:h=0):vSlH sz (some .nilS) (some l) (some h)=some (.d .nilS):=by simp only [vSlH,h1,h2,and_self,if_true]
@[go_sem] theorem vSlH_gs (sz b off len cap:Nat) (l h:Int) (h1:0≤l) (h2:l≤h) (h3:h≤cap):vSlH sz (some (.gs b off len cap)) (some l) (some h)=some (.d (.gs b (if cap=l.toNat then off else off + l.toNat * sz) (h.toNat - l.toNat) (cap - l.toNat))):=by simp only [vSlH,h1,h2,h3,and_self,if_true]
def vStL (x:AV) (lo:Option Int):Option AV :=
 match x,lo with
 | .d (.str s),some l=>if 0≤l∧l≤s.length then some (.d (.str (s.drop l.toNat))) else none
 | _,_=>none
def vStH (x:AV) (lo hi:Option Int):Option AV :=
 match x,lo,hi with
 | .d (.str s),some l,some h=>if 0≤l∧l≤h∧h≤s.length then some (.d (.str ((s.take h.toNat).drop l.toNat))) else none
 | _,_,_=>none
@[go_sem] theorem evP_stL (x:AO) (lo:Option AO):evP ρ lv G (.slS x lo none)=vStL (ev ρ x) (bnd ρ 0 lo):=by
  have e:∀ n,bnd ρ n none=some (n:Int):=fun _=>rfl
  simp only [evP,vStL,e]
  generalize ev ρ x=o
  generalize bnd ρ 0 lo=l
  cases o with
  | d d=>cases d with
    | str s=>cases l with
      | none=>rfl
      | some l=>by_cases h2:0≤l∧l≤s.length<;>simp [h2]
    | _=>rfl
  | _=>rfl
@[go_sem] theorem evP_stH (x:AO) (lo:Option AO) (h:AO):evP ρ lv G (.slS x lo (some h))=vStH (ev ρ x) (bnd ρ 0 lo) (vInt (ev ρ h)):=by
  have e:∀ n,bnd ρ n (some h)=vInt (ev ρ h):=fun n=>rfl
  simp only [evP,vStH,e]
  generalize ev ρ x=o
  generalize bnd ρ 0 lo=l
  generalize vInt (ev ρ h)=k
  cases o with
  | d d=>cases d with
    | str s=>cases l<;>cases k<;>simp
    | _=>rfl
  | _=>rfl
@[go_sem] theorem vStL_mk (s:List UInt8) (l:Int) (h1:0≤l) (h2:l≤s.length):vStL (.d (.str s)) (some l)=some (.d (.str (s.drop l.toNat))):=by simp only [vStL,h1,h2,and_self,if_true]
@[go_sem] theorem vStH_mk (s:List UInt8) (l h:Int) (h1:0≤l) (h2:l≤h) (h3:h≤s.length):vStH (.d (.str s)) (some l) (some h)=some (.d (.str ((s.take h.toNat).drop l.toNat))):=by simp only [vStH,h1,h2,h3,and_self,if_true]
def vFaddr (off:Nat) (v:AV):Option AV:=match v with|.ptr k s g o=>some (.ptr k s g (o + off))|.cptr cs=>some (.cptr (cs.drop off))|.d (.gp b o)=>some (.d (.gp b (o + off)))|_=>none
@[go_sem] theorem evP_faddr (off:Nat) (x:AO):evP ρ lv G (.faddr off x)=vFaddr off (ev ρ x):=rfl
@[go_sem] theorem vFaddr_ptr (off k s g o:Nat):vFaddr off (.ptr k s g o)=some (.ptr k s g (o + off)):=rfl
@[go_sem] theorem vFaddr_cptr (off:Nat) (cs:List D):vFaddr off (.cptr cs)=some (.cptr (cs.drop off)):=rfl
@[go_sem] theorem vFaddr_gp (off b o:Nat):vFaddr off (.d (.gp b o))=some (.d (.gp b (o + off))):=rfl
def vField (agg:Bool) (off n:Nat) (v:AV):Option AV:=match v with|.d (.agg cs)=>(loadD agg n (cs.drop off)).map .d|_=>none
@[go_sem] theorem evP_field (agg:Bool) (off n:Nat) (x:AO):evP ρ lv G (.field agg off n x)=vField agg off n (ev ρ x):=rfl
@[go_sem] theorem vField_agg (agg:Bool) (off n:Nat) (cs:List D):vField agg off n (.d (.agg cs))=(loadD agg n (cs.drop off)).map .d:=rfl
def vIaddr (sz:Nat) (x:Option D) (i:AV):Option AV:=match x,i with
 | some (.list es),.d (.int _ n)=>if es.all (sizeOk sz)∧0≤n then (es[n.toNat]?).map fun e=>.cptr e.cells else none
 | some (.gs b off len _),.d (.int _ n)=>if 0≤n∧n < len then some (.d (.gp b (off + n.toNat * sz))) else none
 | _,_=>none
@[go_sem] theorem evP_iaddr (sz:Nat) (x i:AO):evP ρ lv G (.iaddr sz x i)=vIaddr sz (ev ρ x).data (ev ρ i):=rfl
theorem vIaddr_list (sz:Nat) (es:List D) (k:IntKind) (n:Int) (ha:es.all (sizeOk sz)=true) (h0:0≤n) (h:n.toNat < es.length):vIaddr sz (some (.list es)) (.d (.int k n))=some (.cptr (es[n.toNat]).cells):=by
 simp only [vIaddr,ha,h0,and_self,if_true,List.getElem?_eq_getElem h,Option.map_some]
@[go_sem] theorem vIaddr_map {α:Type} (sz:Nat) (f:α→D) (es:List α) (k:IntKind) (n:Int) (h0:0≤n) (h:n.toNat < es.length):vIaddr sz (some (.list (es.map f))) (.d (.int k n))=if (es.map f).all (sizeOk sz)=true then some (.cptr (f es[n.toNat]).cells) else none:=by
  by_cases ha:(es.map f).all (sizeOk sz)=true
  · rw [vIaddr_list sz _ k n ha h0 (by simpa using h),if_pos ha]; simp
  · rw [if_neg ha]; simp [vIaddr,ha]
@[go_sem] theorem vIaddr_gs (sz b off len cap:Nat) (k:IntKind) (n:Int) (h0:0≤n) (h:n < len):vIaddr sz (some (.gs b off len cap)) (.d (.int k n))=some (.d (.gp b (off + n.toNat * sz))):=by
  simp only [vIaddr,h0,h,and_self,if_true]
def vIaddrA (len sz:Nat) (x i:AV):Option AV:=match x,i with
 | .ptr k s g o,.d (.int _ n)=>if 0≤n∧n < len then some (.ptr k s g (o + n.toNat * sz)) else none
 | .cptr cs,.d (.int _ n)=>if 0≤n∧n < len then some (.cptr (cs.drop (n.toNat * sz))) else none
 | .d (.gp b o),.d (.int _ n)=>if 0≤n∧n < len then some (.d (.gp b (o + n.toNat * sz))) else none
 | _,_=>none
@[go_sem] theorem evP_iaddrA (len sz:Nat) (x i:AO):evP ρ lv G (.iaddrA len sz x i)=vIaddrA len sz (ev ρ x) (ev ρ i):=rfl
@[go_sem] theorem vIaddrA_ptr (len sz k s g o:Nat) (ik:IntKind) (n:Int) (h0:0≤n) (h:n < len):vIaddrA len sz (.ptr k s g o) (.d (.int ik n))=some (.ptr k s g (o + n.toNat * sz)):=by simp only [vIaddrA,h0,h,and_self,if_true]
@[go_sem] theorem vIaddrA_cptr (len sz:Nat) (cs:List D) (ik:IntKind) (n:Int) (h0:0≤n) (h:n < len):vIaddrA len sz (.cptr cs) (.d (.int ik n))=some (.cptr (cs.drop (n.toNat * sz))):=by simp only [vIaddrA,h0,h,and_self,if_true]
@[go_sem] theorem vIaddrA_gp (len sz b o:Nat) (ik:IntKind) (n:Int) (h0:0≤n) (h:n < len):vIaddrA len sz (.d (.gp b o)) (.d (.int ik n))=some (.d (.gp b (o + n.toNat * sz))):=by simp only [vIaddrA,h0,h,and_self,if_true]
def vIdxS (x i:AV):Option AV:=match x,i with
 | .d (.str s),.d (.int _ n)=>if 0≤n then (s[n.toNat]?).map fun b=>.d (.int .u8 b.toNat) else none
 | _,_=>none
@[go_sem] theorem evP_idxS (x i:AO):evP ρ lv G (.idxS x i)=vIdxS (ev ρ x) (ev ρ i):=rfl
@[go_sem] theorem vIdxS_mk (s:List UInt8) (k:IntKind) (n:Int) (h0:0≤n) (h:n.toNat < s.length):vIdxS (.d (.str s)) (.d (.int k n))=some (.d (.int .u8 (s[n.toNat]).toNat)):=by
  simp only [vIdxS,h0,if_true,List.getElem?_eq_getElem h,Option.map_some]
def vIdxA (agg:Bool) (len sz:Nat) (x i:AV):Option AV:=match x,i with
 | .d (.agg cs),.d (.int _ n)=>if 0≤n∧n < len then (loadD agg sz (cs.drop (n.toNat * sz))).map .d else none
 | _,_=>none
@[go_sem] theorem evP_idxA (agg:Bool) (len sz:Nat) (x i:AO):evP ρ lv G (.idxA agg len sz x i)=vIdxA agg len sz (ev ρ x) (ev ρ i):=rfl
@[go_sem] theorem vIdxA_mk (agg:Bool) (len sz:Nat) (cs:List D) (k:IntKind) (n:Int) (h0:0≤n) (h:n < len):vIdxA agg len sz (.d (.agg cs)) (.d (.int k n))=(loadD agg sz (cs.drop (n.toNat * sz))).map .d:=by simp only [vIdxA,h0,h,and_self,if_true]
def vExt (x:AV) (i:Nat):Option AV:=match x with|.tup vs=>(vs[i]?).map .d|_=>none
@[go_sem] theorem evP_ext (x:AO) (i:Nat):evP ρ lv G (.ext x i)=vExt (ev ρ x) i:=rfl
@[go_sem] theorem vExt_0 (a:D) (vs:List D):vExt (.tup (a::vs)) 0=some (.d a):=rfl
@[go_sem] theorem vExt_1 (a b:D) (vs:List D):vExt (.tup (a::b::vs)) 1=some (.d b):=rfl
@[go_sem] theorem vExt_2 (a b c:D) (vs:List D):vExt (.tup (a::b::c::vs)) 2=some (.d c):=rfl
@[go_sem] theorem vExt_3 (a b c d:D) (vs:List D):vExt (.tup (a::b::c::d::vs)) 3=some (.d d):=rfl
def vLen (str:Bool) (x:Option D):Option AV:=match x with|some y=>(lenD str y).map fun n=>.d (.int .i64 n)|none=>none
@[go_sem] theorem evP_len (str:Bool) (x:AO):evP ρ lv G (.len str x)=vLen str (ev ρ x).data:=rfl
@[go_sem] theorem vLen_list (es:List D):vLen false (some (.list es))=some (.d (.int .i64 es.length)):=rfl
@[go_sem] theorem vLen_nil:vLen false (some .nilS)=some (.d (.int .i64 0)):=rfl
@[go_sem] theorem vLen_gs (b off len cap:Nat):vLen false (some (.gs b off len cap))=some (.d (.int .i64 len)):=rfl
@[go_sem] theorem vLen_str (s:List UInt8):vLen true (some (.str s))=some (.d (.int .i64 s.length)):=rfl
def vMx (x y:AV):Option AV:=match x,y with|.d (.int k a),.d (.int _ b)=>some (.d (.int k (if b > a then b else a)))|_,_=>none
@[go_sem] theorem evP_mx (x y:AO):evP ρ lv G (.mx x y)=vMx (ev ρ x) (ev ρ y):=rfl
@[go_sem] theorem vMx_i (k k':IntKind) (a b:Int):vMx (.d (.int k a)) (.d (.int k' b))=some (.d (.int k (max a b))):=by simp only [vMx]; congr 3; by_cases h:b > a<;>simp [h]<;>omega
def vMn (x y:AV):Option AV:=match x,y with|.d (.int k a),.d (.int _ b)=>some (.d (.int k (if b < a then b else a)))|_,_=>none
@[go_sem] theorem evP_mn (x y:AO):evP ρ lv G (.mn x y)=vMn (ev ρ x) (ev ρ y):=rfl
@[go_sem] theorem vMn_i (k k':IntKind) (a b:Int):vMn (.d (.int k a)) (.d (.int k' b))=some (.d (.int k (min a b))):=by simp only [vMn]; congr 3; by_cases h:b < a<;>simp [h]<;>omega
def vB2s (x:Option D):Option AV:=match x with
 | some .nilS=>some (.d (.str []))
 | some (.list es)=>(bytesD es).map fun l=>.d (.str l)
 | _=>none
@[go_sem] theorem evP_b2s (x:AO):evP ρ lv G (.b2s x)=vB2s (ev ρ x).data:=rfl
@[go_sem] theorem vB2s_nil:vB2s (some .nilS)=some (.d (.str [])):=rfl
def eB (b:UInt8):D:=.int .u8 b.toNat
theorem bytesD_map (l:List UInt8):bytesD (l.map eB)=some l:=by
 induction l with
 | nil=>rfl
 | cons b l ih=>simp [eB,bytesD] at ih ⊢; rw [ih]
@[go_sem] theorem vB2s_map (l:List UInt8):vB2s (some (.list (l.map eB)))=some (.d (.str l)):=by simp only [vB2s,bytesD_map,Option.map_some]
def vS2b (x:AV):Option AV:=match x with|.d (.str s)=>some (.d (.list (s.map fun b=>.int .u8 b.toNat)))|_=>none
@[go_sem] theorem evP_s2b (x:AO):evP ρ lv G (.s2b x)=vS2b (ev ρ x):=rfl
@[go_sem] theorem vS2b_mk (s:List UInt8):vS2b (.d (.str s))=some (.d (.list (s.map eB))):=rfl
@[go_sem] theorem eB_all (l:List UInt8):(l.map eB).all (sizeOk 1)=true:=by simp [List.all_map,Function.comp_def,eB,sizeOk,D.cells,D.one]
@[go_sem] theorem eB_cells (b:UInt8):(eB b).cells=[.int .u8 b.toNat]:=rfl
def vCap (x:Option D):Option AV:=match x with|some .nilS=>some (.d (.int .i64 0))|some (.gs _ _ _ cap)=>some (.d (.int .i64 cap))|_=>none
@[go_sem] theorem evP_cap (x:AO):evP ρ lv G (.cap x)=vCap (ev ρ x).data:=rfl
@[go_sem] theorem vCap_nil:vCap (some .nilS)=some (.d (.int .i64 0)):=rfl
@[go_sem] theorem vCap_gs (b off len cap:Nat):vCap (some (.gs b off len cap))=some (.d (.int .i64 cap)):=rfl
def vSl3 (sz:Nat) (x:Option D) (lo hi mx:Option Int):Option AV :=
 match x,lo,hi,mx with
 | some (.gs b off _ cap),some l,some h,some m=>if 0≤l∧l≤h∧h≤m∧m≤cap then some (.d (.gs b (if m.toNat=l.toNat then off else off + l.toNat * sz) (h.toNat - l.toNat) (m.toNat - l.toNat))) else none
 | _,_,_,_=>none
@[go_sem] theorem evP_sl3 (sz:Nat) (x:AO) (lo:Option AO) (hi mx:AO):evP ρ lv G (.sl3 sz x lo hi mx)=vSl3 sz (ev ρ x).data (bnd ρ 0 lo) (vInt (ev ρ hi)) (vInt (ev ρ mx)):=by
  have e:∀ n o,bnd ρ n (some o)=vInt (ev ρ o):=fun n o=>rfl
  simp only [evP,vSl3,e]
  generalize (ev ρ x).data=o
  generalize bnd ρ 0 lo=l
  generalize vInt (ev ρ hi)=k
  generalize vInt (ev ρ mx)=m
  cases o with
  | none=>rfl
  | some d =>
   cases d with
   | gs b off len cap=>cases l<;>cases k<;>cases m<;>simp
   | _=>rfl
@[go_sem] theorem vSl3_gs (sz b off len cap:Nat) (l h m:Int) (h1:0≤l) (h2:l≤h) (h3:h≤m) (h4:m≤cap):vSl3 sz (some (.gs b off len cap)) (some l) (some h) (some m)=some (.d (.gs b (if m.toNat=l.toNat then off else off + l.toNat * sz) (h.toNat - l.toNat) (m.toNat - l.toNat))):=by
  simp only [vSl3,h1,h2,h3,h4,and_self,if_true]
@[go_sem] theorem appendA_nil (sz by_:Nat) (es:List D) (hb:es.length * by_≤mostBytes):appendA sz by_ (.d .nilS) (.list es)=if es.all (sizeOk sz)=true then some (if es.isEmpty then .d .nilS else .own sz es) else none:=by
  by_cases ha:es.all (sizeOk sz)=true
  · simp only [appendA,srcD,if_pos ha,if_pos hb]; cases es<;>rfl
  · simp only [appendA,srcD,if_neg ha]
@[go_sem] theorem appendA_own (sz by_:Nat) (xs es:List D) (hb:(xs.length + es.length) * by_≤mostBytes):appendA sz by_ (.own sz xs) (.list es)=if es.all (sizeOk sz)=true then some (.own sz (xs ++ es)) else none:=by
  simp only [appendA,srcD]; by_cases ha:es.all (sizeOk sz)=true<;>simp [ha,hb]
@[go_sem] theorem appendA_ownn (sz by_:Nat) (xs:List D) (hb:xs.length * by_≤mostBytes):appendA sz by_ (.own sz xs) .nilS=some (.own sz xs):=by
  simp only [appendA,srcD,List.length_nil,Nat.add_zero,hb,and_self,if_true,List.append_nil]
@[go_sem] theorem appendA_nn (sz by_:Nat):appendA sz by_ (.d .nilS) .nilS=some (.d .nilS):=by
  simp [appendA,srcD]
@[go_sem] theorem target_fn (f:FuncId):target (.d (.fn f))=some (f,[]):=rfl
@[go_sem] theorem target_func (f:FuncId) (caps:List (Nat × Nat × Nat)):target (.func f caps)=some (f,caps.map fun (k,s,g)=>.ptr k s g 0):=rfl
end
theorem natCast_nonneg (n:Nat):(0≤(n:Int))=True:=by simp
theorem mostBytes_eq:mostBytes=140737488355328:=rfl
attribute [go_sem] mostBytes_eq List.isEmpty_cons List.isEmpty_nil natCast_nonneg Nat.add_zero Nat.zero_add decide_true decide_false not_true_eq_false not_false_eq_true Bool.not_true Bool.not_false AV.d.injEq and_self and_true true_and
@[go_sem] theorem sh_d (x:D):sh (.d x)=.d x:=rfl
@[go_sem] theorem sh_own (sz:Nat) (es:List D):sh (.own sz es)=.d (.list es):=rfl
@[go_sem] theorem sh_ptr (k s g off:Nat):sh (.ptr k s g off)=.ptr (k + 1) s g off:=rfl
@[go_sem] theorem sh_func (f:FuncId) (caps:List (Nat × Nat × Nat)):sh (.func f caps)=.func f (caps.map fun (k,s,g)=>(k + 1,s,g)):=rfl
@[go_sem] theorem sh_cptr (cs:List D):sh (.cptr cs)=.cptr cs:=rfl
@[go_sem] theorem sh_cp (v:AV):(sh v).cp=sh v:=by cases v<;>rfl
theorem callW_data {ρ:Env}:∀ {args:List AO} {xs:List D},datas ρ args=some xs→(args.map (ev ρ)).map sh=xs.map .d
 | [],xs,h=>by simp [datas] at h; subst h; rfl
 | o::args,xs,h=>by
   simp only [datas] at h
   split at h
   · rename_i x xs' hx hxs
     cases h
     simp only [List.map_cons,callW_data hxs]
     congr 1
     generalize ev ρ o=v at hx
     cases v<;>simp [AV.data] at hx<;>subst hx<;>rfl
   · cases h
theorem callW_qc {P:Program} {d:Option Nat} {f:AO} {args:List AO} {q:Nat} {ρ:Env} {L:Hp} {σ:List Hp} {G:Gh} {K:St→Prop} {g:FuncId} {xs cs:List D} {Q:AV→Prop}
 (hc:∀ σ,CallT P g ((xs ++ cs).map .d) σ G fun r σ' G'=>σ'=σ∧G'=G∧Q r) (ht:target (ev ρ f)=some (g,cs.map .d)) (hd:datas ρ args=some xs) (hK:∀ r,Q r→K (put ρ d r,L,σ,G)):callW P d f args q ρ L σ G K:=by
 unfold callW
 rw [ht]
 have e:(args.map (ev ρ) ++ cs.map AV.d).map sh=(xs ++ cs).map AV.d:=by
  rw [List.map_append,callW_data hd,List.map_append,List.map_map]; rfl
 simp only
 split
 · rw [e]
   exact (hc _).mono fun r lv G' ⟨h1,h2,h3⟩=>by subst h1; subst h2; exact hK r h3
 · split
   · rw [e]
     exact (hc _).mono fun r lv G' ⟨h1,h2,h3⟩=>by subst h1; subst h2; exact ⟨rfl,fun _=>GExt.refl _,hK r h3⟩
   · refine ⟨cs,rfl,?_⟩
     rw [hd]
     exact (hc _).mono fun r lv G' ⟨h1,h2,h3⟩=>by subst h1; subst h2; exact ⟨rfl,fun _=>GExt.refl _,hK r h3⟩
theorem callW_q {P:Program} {d:Option Nat} {f:AO} {args:List AO} {q:Nat} {ρ:Env} {L:Hp} {σ:List Hp} {G:Gh} {K:St→Prop} {g:FuncId} {xs:List D} {Q:AV→Prop}
 (hc:∀ σ,CallT P g (xs.map .d) σ G fun r σ' G'=>σ'=σ∧G'=G∧Q r) (ht:target (ev ρ f)=some (g,[])) (hd:datas ρ args=some xs) (hK:∀ r,Q r→K (put ρ d r,L,σ,G)):callW P d f args q ρ L σ G K :=
 callW_qc (cs:=[]) (by simpa using hc) ht hd hK
theorem callW_p {P:Program} {d:Option Nat} {f:AO} {args:List AO} {q:Nat} {ρ:Env} {L:Hp} {σ:List Hp} {G:Gh} {K:St→Prop} {g:FuncId} {xs:List D} {Q:AV→Prop}
 (hc:CallP P g xs Q) (ht:target (ev ρ f)=some (g,[])) (hd:datas ρ args=some xs) (hK:∀ r,Q r→K (put ρ d r,L,σ,G)):callW P d f args q ρ L σ G K :=
 callW_q (fun σ=>hc.quiet σ G) ht hd hK
theorem callW_lend {P:Program} {d:Option Nat} {f:AO} {args:List AO} {q:Nat} {ρ:Env} {L:Hp} {σ:List Hp} {G:Gh} {K:St→Prop} {g:FuncId} {xs ys:List D} {Q:AV→Prop}
 (hc:CallP P g ys Q) (ht:target (ev ρ f)=some (g,[])) (hd:datas ρ args=some xs) (hl:Lends G xs ys) (hf:∀ r,Q r→flatA r=true) (hK:∀ r,Q r→K (put ρ d r,L,σ,G)):callW P d f args q ρ L σ G K :=
 callW_q (fun σ=>hc.lend hl hf σ) ht hd hK
theorem E_le {l l':List (Nat × AV)} (h:∀ p ∈ l',VLe (E l p.1) p.2):∀ i,VLe (E l i) (E l' i):=by
 intro i
 induction l' with
 | nil=>exact .undef _
 | cons p l' ih =>
  obtain ⟨j,v⟩:=p
  simp only [E]
  split
  · rename_i e; subst e; exact h _ List.mem_cons_self
  · exact ih fun q hq=>h q (List.mem_cons_of_mem _ hq)
theorem st_le {l l':List (Nat × AV)} {L:Hp} {σ:List Hp} {G:Gh} (h:∀ p ∈ l',VLe (E l p.1) p.2):StLe (E l,L,σ,G) (E l',L,σ,G):=⟨E_le h,fun _=>BLe.refl _,rfl,GLe.refl _⟩
theorem st_leB {l l':List (Nat × AV)} {h h':List (Nat × Blk)} {σ:List Hp} {G:Gh} (he:∀ p ∈ l',VLe (E l p.1) p.2) (hb:HB h=HB h'):StLe (E l,HB h,σ,G) (E l',HB h',σ,G):=by rw [← hb]; exact st_le he
theorem vle_refl (v:AV):VLe v v=True:=by simp [VLe.refl]
theorem vle_undef (v:AV):VLe v .undef=True:=by simp [VLe.undef]
theorem vle_nilown (sz:Nat):VLe (.d .nilS) (.own sz [])=True:=by simp [VLe.nilown]
theorem vle_own (sz:Nat) (es:List D):VLe (.own sz es) (.d (.list es))=True:=by simp [VLe.own]
attribute [go_sem] vle_refl vle_undef vle_nilown vle_own
@[go_sem ↓] theorem vles_nil (l:List (Nat × AV)):(∀ p ∈ ([]:List (Nat × AV)),VLe (E l p.1) p.2)=True:=by simp
@[go_sem ↓] theorem vles_cons (l l':List (Nat × AV)) (q:Nat × AV):(∀ p ∈ q::l',VLe (E l p.1) p.2)=(VLe (E l q.1) q.2∧∀ p ∈ l',VLe (E l p.1) p.2):=by simp
theorem HB_pad (h:List (Nat × Blk)):∀ (ss:List Nat),(ss.all fun s=>!(h.map (·.1)).contains s)=true→HB (h ++ ss.map fun s=>(s,⟨0,none⟩))=HB h:=by
 intro ss hs
 funext j
 induction h with
 | nil =>
  induction ss with
  | nil=>rfl
  | cons s ss ih=>simp only [List.nil_append,List.map_cons,HB] at ih ⊢; split<;>first|rfl|exact ih (by simp at hs ⊢)
 | cons p h ih =>
  obtain ⟨i,b⟩:=p
  simp only [List.cons_append,HB]
  split
  · rfl
  · refine ih ?_
    simp only [List.all_eq_true,List.map_cons,List.contains_cons,Bool.not_eq_true',Bool.or_eq_false_iff] at hs ⊢
    exact fun s hm=>(hs s hm).2
section
variable {P:Program} {κ:AExit→St→Prop} {st:St} {h:Hide κ}
theorem W.seq {x y:ACode} (hx:W P x (Hide.mk (a:=AExit.then (fun st'=>W P y (Hide.mk (a:=κ)) st') κ)) st):W P (.seq x y) h st:=SW.seq hx
theorem W.block {id:Nat} {x:ACode} (hx:W P x (Hide.mk (a:=AExit.inBlock id κ)) st):W P (.block id x) h st:=SW.block hx
theorem W.scope {x:ACode} (hx:W P x h st):W P (.scope x) h st:=SW.scope hx
theorem W.reg {d:Bool} {os:List AI} (hx:regW P os st.1 st.2.1 st.2.2.1 st.2.2.2 (κ .normal)):W P (.reg d os) h st:=SW.reg hx
theorem W.skip (hx:κ .normal st):W P .skip h st:=SW.skip hx
theorem W.exit {id:Nat} (hx:κ (.exit id) st):W P (.exit id) h st:=SW.exit hx
theorem W.ret (hx:κ .ret st):W P .ret h st:=SW.ret hx
def wI2 (v:AV) {k1 k2:Prop} (_:Hide k1) (_:Hide k2):Prop:=∃ b,v=.d (.bool b)∧if b=true then k1 else k2
@[go_sem] theorem wI2_d (b:Bool) {k1 k2:Prop} (h1:Hide k1) (h2:Hide k2):wI2 (.d (.bool b)) h1 h2=wG (.d (.bool b)) true h1 h2:=by cases b<;>simp [wI2,wG,gdec]
theorem W.ifc {c:AO} {x y:ACode} (hx:wI2 (ev st.1 c) (Hide.mk (a:=W P x (Hide.mk (a:=κ)) st)) (Hide.mk (a:=W P y (Hide.mk (a:=κ)) st))):W P (.cond c x y) h st:=by
 obtain ⟨b,hb,hx⟩:=hx
 refine SW.cond hb (fun e=>?_) (fun e=>?_)
 · subst e; exact hx
 · subst e; exact hx
theorem wG_dec {p:Prop} [Decidable p] {k1 k2:Prop} {i1:Hide k1} {i2:Hide k2} (h1:p→k1) (h2:¬ p→k2):wG (.d (.bool (decide p))) true i1 i2 :=
 wG_t (fun h=>h1 (of_decide_eq_true h)) (fun h=>h2 (of_decide_eq_false h))
theorem wG_decF {p:Prop} [Decidable p] {k1 k2:Prop} {i1:Hide k1} {i2:Hide k2} (h1:¬ p→k1) (h2:p→k2):wG (.d (.bool (decide p))) false i1 i2 :=
 wG_f (fun h=>h1 (of_decide_eq_false h)) (fun h=>h2 (of_decide_eq_true h))
theorem wG_decE {p:Prop} [Decidable p] {k1 k2:Prop} {i1:Hide k1} {i2:Hide k2} (h1:p→p=True→k1) (h2:¬ p→p=False→k2):wG (.d (.bool (decide p))) true i1 i2 :=
 wG_dec (fun h=>h1 h (eq_true h)) (fun h=>h2 h (eq_false h))
theorem wG_decFE {p:Prop} [Decidable p] {k1 k2:Prop} {i1:Hide k1} {i2:Hide k2} (h1:¬ p→p=False→k1) (h2:p→p=True→k2):wG (.d (.bool (decide p))) false i1 i2 :=
 wG_decF (fun h=>h1 h (eq_false h)) (fun h=>h2 h (eq_true h))
theorem W.loop {x:ACode} (I:Nat→St→Prop) (h0:∃ n st0,StLe st st0∧I n st0) (round:∀ n st',I n st'→W P x (Hide.mk (a:=AExit.then (Back (Hide.mk (a:=I)) n) κ)) st'):W P (.loop x) h st:=by
 obtain ⟨n,st0,hl,hi⟩:=h0
 exact (SW.loop I hi round).weaken hl
theorem W.weaken {c:ACode} {st0:St} (hl:StLe st st0) (hx:W P c (Hide.mk (a:=κ)) st0):W P c h st:=SW.weaken hl hx
theorem Back.mk {I:Nat→St→Prop} {h:Hide I} {n:Nat} (hx:∃ m st0,m < n∧StLe st st0∧I m st0):Back h n st:=hx
end
theorem callT_of_W {P:Program} {gs:List Nat} {f:FuncId} {nt:Nat} {res:List ARes} {c:ACode} {vs:List AV} {σ:List Hp} {G:Gh} {Q:AV→List Hp→Gh→Prop} (hm:P.follows .mixedOrders=true) (hf:compile P gs f=some ⟨nt,res,c⟩)
 (h:W P c (Hide.mk (a:=endQ res Q)) (E (nums 0 vs),HB [],σ,G)):CallT P f vs σ G Q :=
 callT_of_SW hm hf (by rw [ofL_E]; exact h)
theorem callP_of_W {P:Program} {gs:List Nat} {f:FuncId} {nt:Nat} {res:List ARes} {c:ACode} {xs:List D} {Q:AV→Prop} (hm:P.follows .mixedOrders=true) (hf:compile P gs f=some ⟨nt,res,c⟩)
 (h:W P c (Hide.mk (a:=endQ res fun r σ' G'=>σ'=[]∧G'=noGh∧Q r)) (E (nums 0 (xs.map .d)),HB [],[],noGh)):CallP P f xs Q:=callT_of_W hm hf h
theorem Fin.le {res:List ARes} {Q:AV→List Hp→Gh→Prop} {h:Hide Q} {st:St} {r r':AV} (hf:fin res st.1 (st.2.1::st.2.2.1) st.2.2.2=some r) (hl:RLe r r') (hq:Q r' st.2.2.1 st.2.2.2):Fin res h st:=⟨r,r',hf,hl,hq⟩
theorem Fin.eq {res:List ARes} {Q:AV→List Hp→Gh→Prop} {h:Hide Q} {st:St} {r:AV} (hf:fin res st.1 (st.2.1::st.2.2.1) st.2.2.2=some r) (hq:Q r st.2.2.1 st.2.2.2):Fin res h st:=⟨r,r,hf,.refl r,hq⟩
theorem Fin.p {res:List ARes} {Q:AV→Prop} {h:Hide fun (r:AV) (σ':List Hp) (G':Gh)=>σ'=[]∧G'=noGh∧Q r} {ρ:Env} {L:Hp} {r:AV} (hf:fin res ρ [L] noGh=some r) (hq:Q r):Fin res h (ρ,L,[],noGh):=⟨r,r,hf,.refl r,rfl,rfl,hq⟩
theorem Fin.ple {res:List ARes} {Q:AV→Prop} {h:Hide fun (r:AV) (σ':List Hp) (G':Gh)=>σ'=[]∧G'=noGh∧Q r} {ρ:Env} {L:Hp} {r r':AV} (hf:fin res ρ [L] noGh=some r) (hl:RLe r r') (hq:Q r'):Fin res h (ρ,L,[],noGh):=⟨r,r',hf,hl,rfl,rfl,hq⟩
section
variable {P:Program} {d:Option Nat} {f:AO} {args:List AO} {q:Nat} {ρ:Env} {L:Hp} {σ:List Hp} {G:Gh} {K:St→Prop} {h:Hide K} {g:FuncId} {xs ys:List D} {Q:AV→Prop}
theorem wC_p (hc:CallP P g xs Q) (ht:target (ev ρ f)=some (g,[])) (hd:datas ρ args=some xs) (hK:∀ r,Q r→K (put ρ d r,L,σ,G)):wC P d f args q ρ L σ G h:=callW_p hc ht hd hK
theorem wC_lend (hc:CallP P g ys Q) (ht:target (ev ρ f)=some (g,[])) (hd:datas ρ args=some xs) (hl:Lends G xs ys) (hf:∀ r,Q r→flatA r=true) (hK:∀ r,Q r→K (put ρ d r,L,σ,G)):wC P d f args q ρ L σ G h:=callW_lend hc ht hd hl hf hK
theorem wC_P (hc:CallP P g xs Q) (ht:target (ev ρ f)=some (g,[])∧datas ρ args=some xs) (hK:∀ r,Q r→K (put ρ d r,L,σ,G)):wC P d f args q ρ L σ G h:=callW_p hc ht.1 ht.2 hK
end
theorem vle_int {k:IntKind} {a b:Int} (h:a=b):VLe (.d (.int k a)) (.d (.int k b)):=by rw [h]; exact .refl _
end Go.E2
