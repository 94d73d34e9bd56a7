/-
 slices.Sort,by the library's own contract.
 Conditions: of each contract as it says.
-/
import Derived.Test.YtlejjdbmmdghmaaF22c
import Derived.Shelf.Sort.AssemblyIn
import Derived.Sort.EveryDepth
import Derived.Shelf.Slices.In.SortNone
import Derived.Sort.OwnSortedInts
set_option linter.unusedSimpArgs false
namespace Go.Proofs.Ytlejjdbmmdghmaa
open Go Go.E2 C22 Go.RowKit
def sortRen:Go.Shelf.Ren:=⟨fun|189=>69|125=>78|257=>77|128=>91|129=>92|294=>82|295=>83|296=>84|297=>85|298=>86|299=>87|216=>88|300=>89|301=>90|328=>96|329=>97|330=>98|331=>99|332=>100|215=>101|343=>103|n=>n,
 fun|28=>51|3=>3|46=>93|0=>0|51=>168|53=>197|4=>4|183=>189|182=>188|131=>193|5=>5|9=>9|218=>203|222=>207|228=>210|229=>211|n=>n,fun n=>n⟩
theorem zq7:Go.Proofs.Lays.n189 Try.prog sortRen:={
 mixed:=by kernel_rfl
 f125:=Try.func78.trans (congrArg some (by kernel_rfl))
 f128:=Try.func91.trans (congrArg some (by kernel_rfl))
 f129:=Try.func92.trans (congrArg some (by kernel_rfl))
 f189:=Try.func69.trans (congrArg some (by kernel_rfl))
 f215:=Try.func101.trans (congrArg some (by kernel_rfl))
 f216:=Try.func88.trans (congrArg some (by kernel_rfl))
 f257:=Try.func77.trans (congrArg some (by kernel_rfl))
 f294:=Try.func82.trans (congrArg some (by kernel_rfl))
 f295:=Try.func83.trans (congrArg some (by kernel_rfl))
 f296:=Try.func84.trans (congrArg some (by kernel_rfl))
 f297:=Try.func85.trans (congrArg some (by kernel_rfl))
 f298:=Try.func86.trans (congrArg some (by kernel_rfl))
 f299:=Try.func87.trans (congrArg some (by kernel_rfl))
 f300:=Try.func89.trans (congrArg some (by kernel_rfl))
 f301:=Try.func90.trans (congrArg some (by kernel_rfl))
 f328:=Try.func96.trans (congrArg some (by kernel_rfl))
 f329:=Try.func97.trans (congrArg some (by kernel_rfl))
 f330:=Try.func98.trans (congrArg some (by kernel_rfl))
 f331:=Try.func99.trans (congrArg some (by kernel_rfl))
 f332:=Try.func100.trans (congrArg some (by kernel_rfl))
 f343:=Try.func103.trans (congrArg some (by kernel_rfl))
 t0:=Try.underlying0
 a0:=Try.isAgg0
 z0:=Try.sizeOf0
 v0:=Try.zeroValue0
 t3:=Try.underlying3
 a3:=Try.isAgg3
 z3:=Try.sizeOf3
 v3:=Try.zeroValue3
 t4:=Try.underlying4
 a4:=Try.isAgg4
 z4:=Try.sizeOf4
 v4:=Try.zeroValue4
 t5:=Try.underlying5
 a5:=Try.isAgg5
 z5:=Try.sizeOf5
 v5:=Try.zeroValue5
 t9:=Try.underlying9
 a9:=Try.isAgg9
 z9:=Try.sizeOf9
 v9:=Try.zeroValue9
 t28:=Try.underlying51
 a28:=Try.isAgg51
 z28:=Try.sizeOf51
 v28:=Try.zeroValue51
 t46:=Try.underlying93
 a46:=Try.isAgg93
 z46:=Try.sizeOf93
 v46:=Try.zeroValue93
 t51:=Try.underlying168
 a51:=Try.isAgg168
 z51:=Try.sizeOf168
 v51:=Try.zeroValue168
 t53:=Try.underlying197
 a53:=Try.isAgg197
 z53:=Try.sizeOf197
 v53:=Try.zeroValue197
 t131:=Try.underlying193
 a131:=Try.isAgg193
 z131:=Try.sizeOf193
 v131:=Try.zeroValue193
 t182:=Try.underlying188
 a182:=Try.isAgg188
 z182:=Try.sizeOf188
 v182:=Try.zeroValue188
 t183:=Try.underlying189
 a183:=Try.isAgg189
 z183:=Try.sizeOf189
 v183:=Try.zeroValue189
 t218:=Try.underlying203
 a218:=Try.isAgg203
 z218:=Try.sizeOf203
 v218:=Try.zeroValue203
 t222:=Try.underlying207
 a222:=Try.isAgg207
 z222:=Try.sizeOf207
 v222:=Try.zeroValue207
 t228:=Try.underlying210
 a228:=Try.isAgg210
 z228:=Try.sizeOf210
 v228:=Try.zeroValue210
 t229:=Try.underlying211
 a229:=Try.isAgg211
 z229:=Try.sizeOf211
 v229:=Try.zeroValue211 }
theorem zlg:zez Try.prog f_zz12:=⟨_,_,Try.func69,rfl,by kernel_rfl⟩
theorem zi3:∀ l:List Int,flat (l.map eI)=l.map eI
 | []=>rfl
 | x::r=>by
   have ih:=zi3 r
   simp only [flat,List.map_cons,List.flatMap_cons,D.cells,List.singleton_append] at ih ⊢
   rw [ih]
theorem zy9 (l:List Int):(l.map eI).all (za 1)=true:=by simp [List.all_map,Function.comp_def,za,D.cells,D.one]
theorem zva {S:Stb} {l:List Int} {vs:List Value} (h:zz S (l.map eI) vs):vs=l.map (Value.int .i64):=by
 apply List.ext_getElem?
 intro i
 cases hi:l[i]? with
 | none=>rw [List.getElem?_eq_none (by rw [h.1,List.length_map];exact List.getElem?_eq_none_iff.1 hi),List.getElem?_map,hi];rfl
 | some n =>
  obtain ⟨v,hv,hr⟩:=h.get (j:=i) (x:=eI n) (by rw [List.getElem?_map,hi];rfl)
  rw [hv,List.getElem?_map,hi,hr.int_inv];rfl
theorem zvb {S:Stb} (l:List Int):zz S (l.map eI) (l.map (Value.int .i64)):=by
 refine ⟨by simp,fun j x v hx hv=>?_⟩
 rw [List.getElem?_map] at hx hv
 cases hj:l[j]? with
 | none=>rw [hj] at hx;cases hx
 | some n=>rw [hj] at hx hv;cases hx;cases hv;exact VRD.int _ _
def zck (l:List Int):List Int:=l.mergeSort fun x y=>decide (x≤y)
theorem zfr (l:List Int):(zck l).length=l.length:=by simp [zck]
theorem zxn (b cap:Nat) (l:List Int) (cs:List D) (hl:l.length≤1000000000) (σ:List Hp) (G:Gh) (hb:G.c b=some cs) (hr:Row 1 l.length cap (l.map eI) cs) :
 zaq Try.prog f_zz12 [.d (.gs b 0 l.length cap)] σ G fun r σ' G'=>σ'=σ∧r=.tup []∧G'=G.set b (some ((zck l).map eI++cs.drop l.length)):=by
 intro S ms w args m0 hsz hrel hargs _
 obtain ⟨v0,rfl⟩:∃ v0,args=#[v0]:=by
  rcases args with ⟨l⟩
  match l,hsz with
  | [x],_=>exact ⟨x,rfl⟩
 have h0:VRD S (.gs b 0 l.length cap) v0:=hargs 0
 cases h0
 obtain ⟨vs,e,hvs,hvr,hone⟩:=hrel.gbox hb
 have hlt:=hrel.g_lt hb
 have htk:vs.toList.take l.length=l.map (Value.int .i64):=by
  have:=hvr.take l.length
  have e1:cs.take l.length=l.map eI:=by have:=hr.eq;rw [Nat.mul_one,zi3] at this;exact this
  rw [e1] at this
  exact zva this
 have hlen:l.length≤vs.size:=by have:=congrArg List.length htk;simp at this;omega
 have hH:=holds_of_blockI (ss:=l) hvs htk
 have hcall:=calls_of_every_depth fun D=>AnyS.slices_Sort_int_in zq7 D b 0 cap l w hH hlt (by omega)
 refine .inl ⟨zlg,hcall.mono fun ex w' ⟨he,n,os,hw⟩=>⟨_,he,?_⟩⟩
 subst hw
 have hnew:=heap_sortedI (n:=n) (os:=os) (l.mergeSort fun x y=>decide (x≤y)).toArray hvs
 have hg:=grownBy_sortedI (w:=w) (g:=b) (n:=n) (os:=os) (l.mergeSort fun x y=>decide (x≤y)).toArray
 generalize hw':Sort.grow (Sort.putRow (Value.int .i64) (Sort.ahead w n) b 0 (l.mergeSort fun x y=>decide (x≤y)).toArray) os=w' at hnew hg ⊢
 obtain ⟨g1,g2,g3,g4,g5⟩:=hg
 have other:∀ k,k<w.heap.size→k≠b→w'.heap[k]?=w.heap[k]?:=fun k hk hne=>g5 k hk (fun e=>hne (by cases e;rfl))
 have hcells:zz S ((zck l).map eI++cs.drop l.length) (Sort.putCells (Value.int .i64) 0 (l.mergeSort fun x y=>decide (x≤y)).toArray vs).toList:=by
  have e1:(Sort.putCells (Value.int .i64) 0 (l.mergeSort fun x y=>decide (x≤y)).toArray vs).toList=(zck l).map (Value.int .i64)++vs.toList.drop l.length:=by
   have e2:=take_putCellsI vs (zck l) (by rw [zfr];exact hlen)
   rw [zfr] at e2
   conv=>lhs;rw [← List.take_append_drop l.length (Sort.putCells (Value.int .i64) 0 (l.mergeSort fun x y=>decide (x≤y)).toArray vs).toList]
   have e3:(Sort.putCells (Value.int .i64) 0 (l.mergeSort fun x y=>decide (x≤y)).toArray vs).toList.drop l.length=vs.toList.drop l.length:=by
    apply List.ext_getElem?
    intro i
    rw [List.getElem?_drop,List.getElem?_drop,Array.getElem?_toList,Array.getElem?_toList]
    have hne:¬ (0≤l.length+i∧l.length+i<0+(l.mergeSort fun x y=>decide (x≤y)).toArray.size):=by
     simp
    simp only [Sort.putCells,Array.getElem?_mapIdx]
    cases vs[l.length+i]? with
    | none=>rfl
    | some x=>simp only [Option.map_some,if_neg hne]
   rw [e3]
   exact congrArg (·++_) e2
  rw [e1]
  exact (zvb _).append (hvr.drop _)
 have hone':((zck l).map eI++cs.drop l.length).all D.one=true:=by
  rw [List.all_append,Bool.and_eq_true]
  refine ⟨by simp [List.all_map,Function.comp_def,D.one],?_⟩
  rw [List.all_eq_true] at hone ⊢
  exact fun x hx=>hone x (List.mem_of_mem_drop hx)
 refine ⟨S,.tup [],σ,_,⟨rfl,rfl,rfl⟩,⟨fun ad v hs=>?_,hrel.len,fun {k s b' cs'} hl'=>?_,hrel.nos,hrel.inj,fun {b' cs'} hb'=>?_,fun {b' cs'} hb'=>?_,fun {b' cs' k s cs2} hb'=>?_,fun r o ho=>?_,hrel.tab⟩,⟨g4,fun k hk hO=>other k hk (fun e=>hO (e▸.inr (.inl ⟨cs,hb⟩))),fun _ _=>rfl,Sub.refl S,g1,g2,g3⟩,zah.refl _,⟨#[],rfl,⟨rfl,fun j x v hx _=>by simp at hx⟩⟩,?_⟩
 · have hc:=hrel.sub _ _ hs
   have hlt2:=hrel.S_lt hs
   have hne:ad.block≠b:=by
    intro e
    have:=hrel.gnos hb ad.off ad.spot
    rw [← e] at this
    rw [this] at hs;cases hs
   simpa [World.cell?,other _ hlt2 hne] using hc
 · exact (hrel.box hl').mono (Sub.refl S) (other _ (hrel.block_lt hl') (fun e=>by subst e;exact hrel.gnl hb hl'))
 · rw [Gh.set_c] at hb'
   unfold upd at hb'
   split at hb'
   · rename_i e;subst e
     cases hb'
     exact ⟨_,_,hnew,hcells,hone'⟩
   · rename_i hne
     exact (hrel.gbox hb').mono (Sub.refl S) (other _ (hrel.g_lt hb') hne)
 · rw [Gh.set_c] at hb'
   unfold upd at hb'
   split at hb'
   · rename_i e;subst e;exact hrel.gnos hb
   · exact hrel.gnos hb'
 · rw [Gh.set_c] at hb'
   unfold upd at hb'
   split at hb'
   · rename_i e;subst e;exact hrel.gnl hb
   · exact hrel.gnl hb'
 · have h1:=hrel.x r o ho
   obtain ⟨x0,hx0,hi0⟩:=hrel.x.get ho
   have hne:r≠b:=by rintro rfl;rw [hvs] at hx0;cases hx0;cases hi0
   rw [other r (hrel.x.lt ho) hne]
   exact h1
 · refine ⟨fun b' cs' hb' _=>?_,fun r o ho _=>.inr (.inr ⟨o,ho⟩)⟩
   rw [Gh.set_c] at hb'
   unfold upd at hb'
   split at hb'
   · rename_i e;subst e;exact .inl ⟨cs,hb⟩
   · exact .inl ⟨cs',hb'⟩
theorem zxo (σ:List Hp) (G:Gh):zaq Try.prog f_zz12 [.d .nilS] σ G fun r σ' G'=>σ'=σ∧r=.tup []∧G'=G:=by
 intro S ms w args m0 hsz hrel hargs _
 obtain ⟨v0,rfl⟩:∃ v0,args=#[v0]:=by
  rcases args with ⟨l⟩
  match l,hsz with
  | [x],_=>exact ⟨x,rfl⟩
 have h0:VRD S .nilS v0:=hargs 0
 cases h0
 refine .inl ⟨zlg,(Any.slices_Sort_int_none zq7 none 0 w).mono fun e w' ⟨he,hw⟩=>⟨_,he,?_⟩⟩
 subst hw
 exact ⟨S,.tup [],σ,G,⟨rfl,rfl,rfl⟩,hrel,Evo.refl _ _ _ _,zah.refl _,⟨#[],rfl,⟨rfl,fun j x v hx _=>by simp at hx⟩⟩,zzg.refl _ _ _ _⟩
theorem z00 (x:D) (l:List Int) (hl:l.length≤1000000000):zy Try.prog f_zz12 [x] [SlA 1 x (l.map eI)] (fun _ post=>post=[SlA 1 x ((zck l).map eI)]):=by
 intro R G σ hs
 have hv:=Sep.gv hs
 rcases hv.shape with rfl|⟨b,n,cap,rfl⟩
 · have hl0:l=[]:=by
    cases l with
    | nil=>rfl
    | cons a l=>obtain ⟨_,_,_,e,_⟩:=hv.inv (by simp);cases e
   subst hl0
   refine (zxo σ G).mono fun r σ' G' ⟨h1,h2,h3⟩=>⟨h1,_,rfl,?_⟩
   subst h3
   have e0:zck ([]:List Int)=[]:=by simp [zck]
   rw [e0]
   exact hs
 · have hg:∃ cs,G.c b=some cs∧n=l.length∧Row 1 n cap (l.map eI) cs:=by
    cases hv with
    | row _ _ _ cs hb hr=>exact ⟨cs,hb,by simp,hr⟩
   obtain ⟨cs,hb,rfl,hr⟩:=hg
   refine (zxn b cap l cs hl σ G hb hr).mono fun r σ' G' ⟨h1,h2,h3⟩=>⟨h1,_,rfl,?_⟩
   subst h3
   refine Sep.slSet hs ?_
   have hroom:=hr.room
   have hfit:=hr.fit
   have:=Row.mk' (sz:=1) (n:=l.length) (cap:=cap) (es:=(zck l).map eI) (rest:=cs.drop l.length) (by rw [List.length_map,zfr]) (zy9 _) hfit (by
    rw [zi3,List.length_append,List.length_map,zfr,List.length_drop];omega)
   rw [zi3] at this
   exact this
end Go.Proofs.Ytlejjdbmmdghmaa
