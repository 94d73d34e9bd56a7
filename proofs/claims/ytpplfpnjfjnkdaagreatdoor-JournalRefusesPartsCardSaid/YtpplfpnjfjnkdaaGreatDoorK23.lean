/-
 Layer 44: the library's two sorts,laid at this program;the row zc8 by ranks.
 Conditions: of each contract as it says.
-/
import Derived.Test.YtpplfpnjfjnkdaaGreatDoorProg
import Derived.Shelf.Abstract
import Derived.Shelf.Sort.AssemblyIn
import Derived.Sort.EveryDepth
import Derived.Shelf.Slices.In.SortNone
import Derived.Sort.OwnSortedInts
import Derived.Test.YtpplfpnjfjnkdaaGreatDoorH5
set_option linter.unusedSimpArgs false
namespace Go.Proofs.YtpplfpnjfjnkdaaGreatDoor
open Go Go.Shelf Go.Sort Go.Lib
def sortI_ren:Go.Shelf.Ren:=⟨fun|189=>116|125=>125|257=>124|128=>141|129=>142|294=>132|295=>133|296=>134|297=>135|298=>136|299=>137|216=>138|300=>139|301=>140|328=>147|329=>148|330=>149|331=>150|332=>151|215=>121|343=>154|n=>n,fun|28=>45|3=>3|46=>53|0=>0|51=>173|53=>172|4=>4|183=>182|182=>181|131=>187|5=>5|9=>9|218=>196|222=>200|228=>205|229=>206|n=>n,fun n=>n⟩
theorem z9o:Lays.n189 Tryz.prog sortI_ren:={
 mixed:=by kernel_rfl
 f125:=Tryz.func125.trans (congrArg some (by kernel_rfl))
 f128:=Tryz.func141.trans (congrArg some (by kernel_rfl))
 f129:=Tryz.func142.trans (congrArg some (by kernel_rfl))
 f189:=Tryz.func116.trans (congrArg some (by kernel_rfl))
 f215:=Tryz.func121.trans (congrArg some (by kernel_rfl))
 f216:=Tryz.func138.trans (congrArg some (by kernel_rfl))
 f257:=Tryz.func124.trans (congrArg some (by kernel_rfl))
 f294:=Tryz.func132.trans (congrArg some (by kernel_rfl))
 f295:=Tryz.func133.trans (congrArg some (by kernel_rfl))
 f296:=Tryz.func134.trans (congrArg some (by kernel_rfl))
 f297:=Tryz.func135.trans (congrArg some (by kernel_rfl))
 f298:=Tryz.func136.trans (congrArg some (by kernel_rfl))
 f299:=Tryz.func137.trans (congrArg some (by kernel_rfl))
 f300:=Tryz.func139.trans (congrArg some (by kernel_rfl))
 f301:=Tryz.func140.trans (congrArg some (by kernel_rfl))
 f328:=Tryz.func147.trans (congrArg some (by kernel_rfl))
 f329:=Tryz.func148.trans (congrArg some (by kernel_rfl))
 f330:=Tryz.func149.trans (congrArg some (by kernel_rfl))
 f331:=Tryz.func150.trans (congrArg some (by kernel_rfl))
 f332:=Tryz.func151.trans (congrArg some (by kernel_rfl))
 f343:=Tryz.func154.trans (congrArg some (by kernel_rfl))
 t0:=Tryz.underlying0
 a0:=Tryz.isAgg0
 z0:=Tryz.sizeOf0
 v0:=Tryz.zeroValue0
 t3:=Tryz.underlying3
 a3:=Tryz.isAgg3
 z3:=Tryz.sizeOf3
 v3:=Tryz.zeroValue3
 t4:=Tryz.underlying4
 a4:=Tryz.isAgg4
 z4:=Tryz.sizeOf4
 v4:=Tryz.zeroValue4
 t5:=Tryz.underlying5
 a5:=Tryz.isAgg5
 z5:=Tryz.sizeOf5
 v5:=Tryz.zeroValue5
 t9:=Tryz.underlying9
 a9:=Tryz.isAgg9
 z9:=Tryz.sizeOf9
 v9:=Tryz.zeroValue9
 t28:=Tryz.underlying45
 a28:=Tryz.isAgg45
 z28:=Tryz.sizeOf45
 v28:=Tryz.zeroValue45
 t46:=Tryz.underlying53
 a46:=Tryz.isAgg53
 z46:=Tryz.sizeOf53
 v46:=Tryz.zeroValue53
 t51:=Tryz.underlying173
 a51:=Tryz.isAgg173
 z51:=Tryz.sizeOf173
 v51:=Tryz.zeroValue173
 t53:=Tryz.underlying172
 a53:=Tryz.isAgg172
 z53:=Tryz.sizeOf172
 v53:=Tryz.zeroValue172
 t131:=Tryz.underlying187
 a131:=Tryz.isAgg187
 z131:=Tryz.sizeOf187
 v131:=Tryz.zeroValue187
 t182:=Tryz.underlying181
 a182:=Tryz.isAgg181
 z182:=Tryz.sizeOf181
 v182:=Tryz.zeroValue181
 t183:=Tryz.underlying182
 a183:=Tryz.isAgg182
 z183:=Tryz.sizeOf182
 v183:=Tryz.zeroValue182
 t218:=Tryz.underlying196
 a218:=Tryz.isAgg196
 z218:=Tryz.sizeOf196
 v218:=Tryz.zeroValue196
 t222:=Tryz.underlying200
 a222:=Tryz.isAgg200
 z222:=Tryz.sizeOf200
 v222:=Tryz.zeroValue200
 t228:=Tryz.underlying205
 a228:=Tryz.isAgg205
 z228:=Tryz.sizeOf205
 v228:=Tryz.zeroValue205
 t229:=Tryz.underlying206
 a229:=Tryz.isAgg206
 z229:=Tryz.sizeOf206
 v229:=Tryz.zeroValue206 }
end Go.Proofs.YtpplfpnjfjnkdaaGreatDoor
namespace Go.Proofs.YtpplfpnjfjnkdaaGreatDoor
open Go Go.E2 CW CH Go.RowKit
set_option maxHeartbeats 4000000
theorem zjo:∀ l:List Int,flat (l.map eI)=l.map eI
 | []=>rfl
 | x::r=>by
   have ih:=zjo r
   simp only [flat,List.map_cons,List.flatMap_cons,D.cells,List.singleton_append] at ih ⊢
   rw [ih]
theorem zxr {S:Stb} {l:List Int} {vs:List Value} (h:zac S (l.map eI) vs):vs=l.map (Value.int .i64):=by
 apply List.ext_getElem?
 intro i
 cases hi:l[i]? with
 | none=>rw [yljQ (by rw [h.1,yk3Q];exact List.getElem?_eq_none_iff.1 hi),ylhQ,hi];rfl
 | some n =>
  obtain ⟨v,hv,hr⟩:=h.get (j:=i) (x:=eI n) (by rw [ylhQ,hi];rfl)
  rw [hv,ylhQ,hi,hr.int_inv];rfl
theorem zxs {S:Stb} (l:List Int):zac S (l.map eI) (l.map (Value.int .i64)):=by
 refine ⟨by simp,fun j x v hx hv=>?_⟩
 rw [ylhQ] at hx hv
 cases hj:l[j]? with
 | none=>rw [hj] at hx;cases hx
 | some n=>rw [hj] at hx hv;cases hx;cases hv;exact VRD.int _ _
theorem z0n {S:Stb} {ms:List (Nat→Nat)} {w:World} {σ:List Hp} {G:Gh} {b:Nat} {cs:List D} {vs:Array Value} {e:TypeId} (ts:List Int) (hrel:zc7 S ms σ G w) (hb:G.c b=some cs) (hvs:w.heap[b]?=some (.cells vs e (0,0))) (hvr:zac S cs vs.toList) (hone:cs.all D.one=true) (hlen:ts.length≤vs.size) (n:Nat) (os:Array Obj) :
 zyo S ms w σ G (fun r σ' G'=>σ'=σ∧r=.tup []∧G'=G.set b (some (ts.map eI++cs.drop ts.length))) (.tuple #[]) (Sort.grow (Sort.putRow (Value.int .i64) (Sort.ahead w n) b 0 ts.toArray) os):=by
 have hnew:=heap_sortedI (n:=n) (os:=os) ts.toArray hvs
 have hg:=grownBy_sortedI (w:=w) (g:=b) (n:=n) (os:=os) ts.toArray
 generalize Sort.grow (Sort.putRow (Value.int .i64) (Sort.ahead w n) b 0 ts.toArray) os=w' at hnew hg ⊢
 obtain ⟨g1,g2,g3,g4,g5⟩:=hg
 have other:∀ k,k<w.heap.size→k≠b→w'.heap[k]?=w.heap[k]?:=fun k hk hne=>g5 k hk (fun e=>hne (by cases e;rfl))
 have hcells:zac S (ts.map eI++cs.drop ts.length) (Sort.putCells (Value.int .i64) 0 ts.toArray vs).toList:=by
  have e1:(Sort.putCells (Value.int .i64) 0 ts.toArray vs).toList=ts.map (Value.int .i64)++vs.toList.drop ts.length:=by
   have e2:=take_putCellsI vs ts hlen
   conv=>lhs;rw [← List.take_append_drop ts.length (Sort.putCells (Value.int .i64) 0 ts.toArray vs).toList]
   have e3:(Sort.putCells (Value.int .i64) 0 ts.toArray vs).toList.drop ts.length=vs.toList.drop ts.length:=by
    apply List.ext_getElem?
    intro i
    rw [List.getElem?_drop,List.getElem?_drop,Array.getElem?_toList,Array.getElem?_toList]
    have hne:¬ (0≤ts.length+i∧ts.length+i<0+ts.toArray.size):=by
     simp
    simp only [Sort.putCells,Array.getElem?_mapIdx]
    cases vs[ts.length+i]? with
    | none=>rfl
    | some x=>simp only [Option.map_some,if_neg hne]
   rw [e3]
   exact congrArg (·++_) e2
  rw [e1]
  exact (zxs _).append (hvr.drop _)
 have hone':(ts.map eI++cs.drop ts.length).all D.one=true:=by
  rw [ylmQ,yk9Q]
  refine ⟨by simp [List.all_map,Function.comp_def,D.one],?_⟩
  rw [ylbQ] at hone ⊢
  exact fun x hx=>hone x (List.mem_of_mem_drop hx)
 refine ⟨S,.tup [],σ,_,⟨rfl,rfl,rfl⟩,⟨fun ad v hs=>?_,hrel.len,fun {k s b' cs'} hl'=>?_,hrel.nos,hrel.inj,fun {b' cs'} hb'=>?_,fun {b' cs'} hb'=>?_,fun {b' cs' k s cs2} hb'=>?_,fun r o ho=>?_,hrel.tab⟩,⟨g4,fun k hk hO=>other k hk (fun e=>hO (e▸.inr (.inl ⟨cs,hb⟩))),fun _ _=>rfl,Sub.refl S,g1,g2,g3⟩,zam.refl _,⟨#[],rfl,⟨rfl,fun j x v hx _=>by simp at hx⟩⟩,?_⟩
 · have hc:=hrel.sub _ _ hs
   have hlt2:=hrel.S_lt hs
   have hne:ad.block≠b:=by
    intro e
    have:=hrel.gnos hb ad.off ad.spot
    rw [← e] at this
    rw [this] at hs;cases hs
   simpa [World.cell?,other _ hlt2 hne] using hc
 · exact (hrel.box hl').mono (Sub.refl S) (other _ (hrel.block_lt hl') (fun e=>by subst e;exact hrel.gnl hb hl'))
 · rw [Gh.set_c] at hb'
   unfold upd at hb'
   split at hb'
   · rename_i e;subst e
     cases hb'
     exact ⟨_,_,hnew,hcells,hone'⟩
   · rename_i hne
     exact (hrel.gbox hb').mono (Sub.refl S) (other _ (hrel.g_lt hb') hne)
 · rw [Gh.set_c] at hb'
   unfold upd at hb'
   split at hb'
   · rename_i e;subst e;exact hrel.gnos hb
   · exact hrel.gnos hb'
 · rw [Gh.set_c] at hb'
   unfold upd at hb'
   split at hb'
   · rename_i e;subst e;exact hrel.gnl hb
   · exact hrel.gnl hb'
 · have h1:=hrel.x r o ho
   obtain ⟨x0,hx0,hi0⟩:=hrel.x.get ho
   have hne:r≠b:=by rintro rfl;rw [hvs] at hx0;cases hx0;cases hi0
   rw [other r (hrel.x.lt ho) hne]
   exact h1
 · refine ⟨fun b' cs' hb' _=>?_,fun r o ho _=>.inr (.inr ⟨o,ho⟩)⟩
   rw [Gh.set_c] at hb'
   unfold upd at hb'
   split at hb'
   · rename_i e;subst e;exact .inl ⟨cs,hb⟩
   · exact .inl ⟨cs',hb'⟩
end Go.Proofs.YtpplfpnjfjnkdaaGreatDoor
namespace Go.Proofs.YtpplfpnjfjnkdaaGreatDoor
open Go Go.E2 CW CH Go.RowKit
set_option maxHeartbeats 4000000
theorem zmf:zhf Tryz.prog f_zz52:=⟨_,_,Tryz.func116,rfl,by kernel_rfl⟩
def zc8 (l:List Int):List Int:=l.mergeSort fun x y=>decide (x≤y)
theorem zgf (l:List Int):(zc8 l).length=l.length:=by simp [zc8]
theorem z0o (b cap:Nat) (l:List Int) (cs:List D) (hl:l.length≤1000000000) (σ:List Hp) (G:Gh) (hb:G.c b=some cs) (hr:Row 1 l.length cap (l.map eI) cs) :
 zaz Tryz.prog f_zz52 [.d (.gs b 0 l.length cap)] σ G fun r σ' G'=>σ'=σ∧r=.tup []∧G'=G.set b (some ((zc8 l).map eI++cs.drop l.length)):=by
 intro S ms w args m0 hsz hrel hargs _
 obtain ⟨v0,rfl⟩:∃ v0,args=#[v0]:=by
  rcases args with ⟨l⟩
  match l,hsz with
  | [x],_=>exact ⟨x,rfl⟩
 have h0:VRD S (.gs b 0 l.length cap) v0:=hargs 0
 cases h0
 obtain ⟨vs,e,hvs,hvr,hone⟩:=hrel.gbox hb
 have hlt:=hrel.g_lt hb
 have htk:vs.toList.take l.length=l.map (Value.int .i64):=by
  have:=hvr.take l.length
  have e1:cs.take l.length=l.map eI:=by have:=hr.eq;rw [ylsQ,zjo] at this;exact this
  rw [e1] at this
  exact zxr this
 have hlen:l.length≤vs.size:=by have:=congrArg List.length htk;simp at this;omega
 have hH:=holds_of_blockI (ss:=l) hvs htk
 have hcall:=calls_of_every_depth fun D=>AnyS.slices_Sort_int_in z9o D b 0 cap l w hH hlt (by omega)
 refine .inl ⟨zmf,hcall.mono fun ex w' ⟨he,n,os,hw⟩=>⟨_,he,?_⟩⟩
 subst hw
 have:=z0n (zc8 l) hrel hb hvs hvr hone (by rw [zgf];exact hlen) n os
 rw [zgf] at this
 exact this
theorem z0p (σ:List Hp) (G:Gh):zaz Tryz.prog f_zz52 [.d .nilS] σ G fun r σ' G'=>σ'=σ∧r=.tup []∧G'=G:=by
 intro S ms w args m0 hsz hrel hargs _
 obtain ⟨v0,rfl⟩:∃ v0,args=#[v0]:=by
  rcases args with ⟨l⟩
  match l,hsz with
  | [x],_=>exact ⟨x,rfl⟩
 have h0:VRD S .nilS v0:=hargs 0
 cases h0
 refine .inl ⟨zmf,(Any.slices_Sort_int_none z9o none 0 w).mono fun e w' ⟨he,hw⟩=>⟨_,he,?_⟩⟩
 subst hw
 exact ⟨S,.tup [],σ,G,⟨rfl,rfl,rfl⟩,hrel,Evo.refl _ _ _ _,zam.refl _,⟨#[],rfl,⟨rfl,fun j x v hx _=>by simp at hx⟩⟩,z00.refl _ _ _ _⟩
theorem Sep.toSl {sz n cap b:Nat} {es cs:List D} {R:List As} {G:Gh} (h:Sep (za b cs::R) G) (hr:Row sz n cap es cs):Sep (SlA sz (.gs b 0 n cap) es::R) G:=h.imp fun _ e=>GV.mk e hr
theorem Sep.slSet {sz n cap b:Nat} {es es' cs':List D} {R:List As} {G:Gh} (h:Sep (SlA sz (.gs b 0 n cap) es::R) G) (hr:Row sz n cap es' cs'):Sep (SlA sz (.gs b 0 n cap) es'::R) (G.set b (some cs')):=by
 have h2:Sep ((fun G=>∃ cs,za b cs G)::R) G:=h.imp fun G1 e=>by
  cases e with
  | row b cap es cs hb hr=>exact ⟨cs,hb⟩
 obtain ⟨cs,h2⟩:=h2.ex
 exact Sep.toSl h2.set hr
theorem z4v (x:D) (l:List Int) (hl:l.length≤1000000000):zaq Tryz.prog f_zz52 [x] [SlA 1 x (l.map eI)] (fun _ post=>post=[SlA 1 x ((zc8 l).map eI)]):=by
 intro R G σ hs
 have hv:=Sep.gv hs
 rcases hv.shape with rfl|⟨b,n,cap,rfl⟩
 · have hl0:l=[]:=by
    cases l with
    | nil=>rfl
    | cons a l=>obtain ⟨_,_,_,e,_⟩:=hv.inv (by simp);cases e
   subst hl0
   refine (z0p σ G).mono fun r σ' G' ⟨h1,h2,h3⟩=>⟨h1,_,rfl,?_⟩
   subst h3
   have e0:zc8 ([]:List Int)=[]:=by simp [zc8]
   rw [e0]
   exact hs
 · have hg:∃ cs,G.c b=some cs∧n=l.length∧Row 1 n cap (l.map eI) cs:=by
    cases hv with
    | row _ _ _ cs hb hr=>exact ⟨cs,hb,by simp,hr⟩
   obtain ⟨cs,hb,rfl,hr⟩:=hg
   refine (z0o b cap l cs hl σ G hb hr).mono fun r σ' G' ⟨h1,h2,h3⟩=>⟨h1,_,rfl,?_⟩
   subst h3
   refine Sep.slSet hs ?_
   have hroom:=hr.room
   have hfit:=hr.fit
   have:=Row.mk' (sz:=1) (n:=l.length) (cap:=cap) (es:=(zc8 l).map eI) (rest:=cs.drop l.length) (by rw [yk3Q,zgf]) (z1t _) hfit (by
    rw [zjo,yk2Q,yk3Q,zgf,ylfQ];omega)
   rw [zjo] at this
   exact this
