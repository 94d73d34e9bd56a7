/-
 Layer 44: the library's two sorts as contracts.
 Conditions: of each contract as it says.
-/
import Derived.Test.YtclmdhceceacoaaGreatDoorH20
import Derived.Test.YtclmdhceceacoaaGreatDoorK23
import Derived.Test.YtclmdhceceacoaaGreatDoorS47
namespace Go.Proofs.YtclmdhceceacoaaGreatDoor
open Go Go.E2 CW CH C44 Go.RowKit
set_option linter.unusedSimpArgs false
set_option maxHeartbeats 4000000
theorem flat_int:∀ l:List Int,flat (l.map eI)=l.map eI
 | []=>rfl
 | x::r=>by
   have ih:=flat_int r
   simp only [flat,List.map_cons,List.flatMap_cons,D.cells,List.singleton_append] at ih ⊢
   rw [ih]
theorem vrds_ints {S:Stb} {l:List Int} {vs:List Value} (h:VRDs S (l.map eI) vs):vs=l.map (Value.int .i64):=by
 apply List.ext_getElem?
 intro i
 cases hi:l[i]? with
 | none=>rw [List.getElem?_eq_none (by rw [h.1,List.length_map]; exact List.getElem?_eq_none_iff.1 hi),List.getElem?_map,hi]; rfl
 | some n =>
  obtain ⟨v,hv,hr⟩:=h.get (j:=i) (x:=eI n) (by rw [List.getElem?_map,hi]; rfl)
  rw [hv,List.getElem?_map,hi,hr.int_inv]; rfl
theorem ints_vrds {S:Stb} (l:List Int):VRDs S (l.map eI) (l.map (Value.int .i64)):=by
 refine ⟨by simp,fun j x v hx hv=>?_⟩
 rw [List.getElem?_map] at hx hv
 cases hj:l[j]? with
 | none=>rw [hj] at hx; cases hx
 | some n=>rw [hj] at hx hv; cases hx; cases hv; exact VRD.int _ _
theorem post_row {S:Stb} {ms:List (Nat→Nat)} {w:World} {σ:List Hp} {G:Gh} {b:Nat} {cs:List D} {vs:Array Value} {e:TypeId} (ts:List Int) (hrel:RelH S ms σ G w) (hb:G.c b=some cs) (hvs:w.heap[b]?=some (.cells vs e (0,0))) (hvr:VRDs S cs vs.toList) (hone:cs.all D.one=true) (hlen:ts.length≤vs.size) (n:Nat) (os:Array Obj) :
 Post S ms w σ G (fun r σ' G'=>σ'=σ∧r=.tup []∧G'=G.set b (some (ts.map eI ++ cs.drop ts.length))) (.tuple #[]) (Sort.grow (Sort.putRow (Value.int .i64) (Sort.ahead w n) b 0 ts.toArray) os):=by
 have hnew:=heap_sortedI (n:=n) (os:=os) ts.toArray hvs
 have hg:=grownBy_sortedI (w:=w) (g:=b) (n:=n) (os:=os) ts.toArray
 generalize Sort.grow (Sort.putRow (Value.int .i64) (Sort.ahead w n) b 0 ts.toArray) os=w' at hnew hg ⊢
 obtain ⟨g1,g2,g3,g4,g5⟩:=hg
 have other:∀ k,k < w.heap.size→k ≠ b→w'.heap[k]?=w.heap[k]?:=fun k hk hne=>g5 k hk (fun e=>hne (by cases e; rfl))
 have hcells:VRDs S (ts.map eI ++ cs.drop ts.length) (Sort.putCells (Value.int .i64) 0 ts.toArray vs).toList:=by
  have e1:(Sort.putCells (Value.int .i64) 0 ts.toArray vs).toList=ts.map (Value.int .i64) ++ vs.toList.drop ts.length:=by
   have e2:=take_putCellsI vs ts hlen
   conv=>lhs; rw [← List.take_append_drop ts.length (Sort.putCells (Value.int .i64) 0 ts.toArray vs).toList]
   have e3:(Sort.putCells (Value.int .i64) 0 ts.toArray vs).toList.drop ts.length=vs.toList.drop ts.length:=by
    apply List.ext_getElem?
    intro i
    rw [List.getElem?_drop,List.getElem?_drop,Array.getElem?_toList,Array.getElem?_toList]
    have hne:¬ (0≤ts.length + i∧ts.length + i < 0 + ts.toArray.size):=by
     simp
    simp only [Sort.putCells,Array.getElem?_mapIdx]
    cases vs[ts.length + i]? with
    | none=>rfl
    | some x=>simp only [Option.map_some,if_neg hne]
   rw [e3]
   exact congrArg (· ++ _) e2
  rw [e1]
  exact (ints_vrds _).append (hvr.drop _)
 have hone':(ts.map eI ++ cs.drop ts.length).all D.one=true:=by
  rw [List.all_append,Bool.and_eq_true]
  refine ⟨by simp [List.all_map,Function.comp_def,D.one],?_⟩
  rw [List.all_eq_true] at hone ⊢
  exact fun x hx=>hone x (List.mem_of_mem_drop hx)
 refine ⟨S,.tup [],σ,_,⟨rfl,rfl,rfl⟩,⟨fun ad v hs=>?_,hrel.len,fun {k s b' cs'} hl'=>?_,hrel.nos,hrel.inj,fun {b' cs'} hb'=>?_,fun {b' cs'} hb'=>?_,fun {b' cs' k s cs2} hb'=>?_,fun r o ho=>?_,hrel.tab⟩,⟨g4,fun k hk hO=>other k hk (fun e=>hO (e ▸ .inr (.inl ⟨cs,hb⟩))),fun _ _=>rfl,Sub.refl S,g1,g2,g3⟩,Shape.refl _,⟨#[],rfl,⟨rfl,fun j x v hx _=>by simp at hx⟩⟩,?_⟩
 · have hc:=hrel.sub _ _ hs
   have hlt2:=hrel.S_lt hs
   have hne:ad.block ≠ b:=by
    intro e
    have:=hrel.gnos hb ad.off ad.spot
    rw [← e] at this
    rw [this] at hs; cases hs
   simpa [World.cell?,other _ hlt2 hne] using hc
 · exact (hrel.box hl').mono (Sub.refl S) (other _ (hrel.block_lt hl') (fun e=>by subst e; exact hrel.gnl hb hl'))
 · rw [Gh.set_c] at hb'
   unfold upd at hb'
   split at hb'
   · rename_i e; subst e
     cases hb'
     exact ⟨_,_,hnew,hcells,hone'⟩
   · rename_i hne
     exact (hrel.gbox hb').mono (Sub.refl S) (other _ (hrel.g_lt hb') hne)
 · rw [Gh.set_c] at hb'
   unfold upd at hb'
   split at hb'
   · rename_i e; subst e; exact hrel.gnos hb
   · exact hrel.gnos hb'
 · rw [Gh.set_c] at hb'
   unfold upd at hb'
   split at hb'
   · rename_i e; subst e; exact hrel.gnl hb
   · exact hrel.gnl hb'
 · have h1:=hrel.x r o ho
   obtain ⟨x0,hx0,hi0⟩:=hrel.x.get ho
   have hne:r ≠ b:=by rintro rfl; rw [hvs] at hx0; cases hx0; cases hi0
   rw [other r (hrel.x.lt ho) hne]
   exact h1
 · refine ⟨fun b' cs' hb' _=>?_,fun r o ho _=>.inr (.inr ⟨o,ho⟩)⟩
   rw [Gh.set_c] at hb'
   unfold upd at hb'
   split at hb'
   · rename_i e; subst e; exact .inl ⟨cs,hb⟩
   · exact .inl ⟨cs',hb'⟩
end Go.Proofs.YtclmdhceceacoaaGreatDoor
/-
 Layer 44: sorted numbers; numbers sorted by their ranks.
 Conditions: of each contract as it says.
-/
namespace Go.Proofs.YtclmdhceceacoaaGreatDoor
open Go Go.E2 CW CH C44 Go.RowKit
set_option linter.unusedSimpArgs false
set_option maxHeartbeats 4000000
theorem sortCalled:Called Tryz.prog f_zz15:=⟨_,_,Tryz.func58,rfl,by kernel_rfl⟩
theorem sortFCalled:Called Tryz.prog f_zz7:=⟨_,_,Tryz.func52,rfl,by kernel_rfl⟩
def sorted (l:List Int):List Int:=l.mergeSort fun x y=>decide (x≤y)
theorem sorted_len (l:List Int):(sorted l).length=l.length:=by simp [sorted]
theorem Sort_row (b cap:Nat) (l:List Int) (cs:List D) (hl:l.length≤1000000000) (σ:List Hp) (G:Gh) (hb:G.c b=some cs) (hr:Row 1 l.length cap (l.map eI) cs) :
 CallT Tryz.prog f_zz15 [.d (.gs b 0 l.length cap)] σ G fun r σ' G'=>σ'=σ∧r=.tup []∧G'=G.set b (some ((sorted l).map eI ++ cs.drop l.length)):=by
 intro S ms w args m0 hsz hrel hargs _
 obtain ⟨v0,rfl⟩:∃ v0,args=#[v0]:=by
  rcases args with ⟨l⟩
  match l,hsz with
  | [x],_=>exact ⟨x,rfl⟩
 have h0:VRD S (.gs b 0 l.length cap) v0:=hargs 0
 cases h0
 obtain ⟨vs,e,hvs,hvr,hone⟩:=hrel.gbox hb
 have hlt:=hrel.g_lt hb
 have htk:vs.toList.take l.length=l.map (Value.int .i64):=by
  have:=hvr.take l.length
  have e1:cs.take l.length=l.map eI:=by have:=hr.eq; rw [Nat.mul_one,flat_int] at this; exact this
  rw [e1] at this
  exact vrds_ints this
 have hlen:l.length≤vs.size:=by have:=congrArg List.length htk; simp at this; omega
 have hH:=holds_of_blockI (ss:=l) hvs htk
 have hcall:=calls_of_every_depth fun D=>AnyS.slices_Sort_int_in sortI D b 0 cap l w hH hlt (by omega)
 refine .inl ⟨sortCalled,hcall.mono fun ex w' ⟨he,n,os,hw⟩=>⟨_,he,?_⟩⟩
 subst hw
 have:=post_row (sorted l) hrel hb hvs hvr hone (by rw [sorted_len]; exact hlen) n os
 rw [sorted_len] at this
 exact this
theorem Sort_nil (σ:List Hp) (G:Gh):CallT Tryz.prog f_zz15 [.d .nilS] σ G fun r σ' G'=>σ'=σ∧r=.tup []∧G'=G:=by
 intro S ms w args m0 hsz hrel hargs _
 obtain ⟨v0,rfl⟩:∃ v0,args=#[v0]:=by
  rcases args with ⟨l⟩
  match l,hsz with
  | [x],_=>exact ⟨x,rfl⟩
 have h0:VRD S .nilS v0:=hargs 0
 cases h0
 refine .inl ⟨sortCalled,(Any.slices_Sort_int_none sortI none 0 w).mono fun e w' ⟨he,hw⟩=>⟨_,he,?_⟩⟩
 subst hw
 exact ⟨S,.tup [],σ,G,⟨rfl,rfl,rfl⟩,hrel,Evo.refl _ _ _ _,Shape.refl _,⟨#[],rfl,⟨rfl,fun j x v hx _=>by simp at hx⟩⟩,OldG.refl _ _ _ _⟩
theorem Sep.toSl {sz n cap b:Nat} {es cs:List D} {R:List As} {G:Gh} (h:Sep (CellA b cs::R) G) (hr:Row sz n cap es cs):Sep (SlA sz (.gs b 0 n cap) es::R) G:=h.imp fun _ e=>GV.mk e hr
theorem Sep.slSet {sz n cap b:Nat} {es es' cs':List D} {R:List As} {G:Gh} (h:Sep (SlA sz (.gs b 0 n cap) es::R) G) (hr:Row sz n cap es' cs'):Sep (SlA sz (.gs b 0 n cap) es'::R) (G.set b (some cs')):=by
 have h2:Sep ((fun G=>∃ cs,CellA b cs G)::R) G:=h.imp fun G1 e=>by
  cases e with
  | row b cap es cs hb hr=>exact ⟨cs,hb⟩
 obtain ⟨cs,h2⟩:=h2.ex
 exact Sep.toSl h2.set hr
theorem Sep.ne {a b:Nat} {x y:List D} {R:List As} {G:Gh} (h:Sep (CellA a x::CellA b y::R) G):a ≠ b:=by
 rintro rfl
 have h1:=(h.set (cs':=.nilP::y)).tail.get
 simp [upd] at h1
theorem Sort_ok (x:D) (l:List Int) (hl:l.length≤1000000000):CallS Tryz.prog f_zz15 [x] [SlA 1 x (l.map eI)] (fun _ post=>post=[SlA 1 x ((sorted l).map eI)]):=by
 intro R G σ hs
 have hv:=Sep.gv hs
 rcases hv.shape with rfl|⟨b,n,cap,rfl⟩
 · have hl0:l=[]:=by
    cases l with
    | nil=>rfl
    | cons a l=>obtain ⟨_,_,_,e,_⟩:=hv.inv (by simp); cases e
   subst hl0
   refine (Sort_nil σ G).mono fun r σ' G' ⟨h1,h2,h3⟩=>⟨h1,_,rfl,?_⟩
   subst h3
   have e0:sorted ([]:List Int)=[]:=by simp [sorted]
   rw [e0]
   exact hs
 · have hg:∃ cs,G.c b=some cs∧n=l.length∧Row 1 n cap (l.map eI) cs:=by
    cases hv with
    | row _ _ _ cs hb hr=>exact ⟨cs,hb,by simp,hr⟩
   obtain ⟨cs,hb,rfl,hr⟩:=hg
   refine (Sort_row b cap l cs hl σ G hb hr).mono fun r σ' G' ⟨h1,h2,h3⟩=>⟨h1,_,rfl,?_⟩
   subst h3
   refine Sep.slSet hs ?_
   have hroom:=hr.room
   have hfit:=hr.fit
   have:=Row.mk' (sz:=1) (n:=l.length) (cap:=cap) (es:=(sorted l).map eI) (rest:=cs.drop l.length) (by rw [List.length_map,sorted_len]) (eI_all _) hfit (by
    rw [flat_int,List.length_append,List.length_map,sorted_len,List.length_drop]; omega)
   rw [flat_int] at this
   exact this
abbrev rkL (rk:Nat→Dg) (k:Nat):List UInt8:=(rk k).1
theorem cfO_lt (rk:Nat→Dg) (x y:Nat):(cfO (rkL rk) x y < 0)↔ltR (rkL rk) x y:=by
 unfold cfO ltR cmpI
 rcases cb_vals (rkL rk x) (rkL rk y) with h|h|h<;>rw [h]
 · simp
 · simp
   split
   · simp; omega
   · split<;>simp<;>omega
 · simp
theorem putRow_conv {n:Nat} [Inhabited (Bl n)] (w:World) (b:Nat) (A:List (Bl n)):Sort.putRow (encB (n:=n)) w b 0 A.toArray=Sort.putRow (Value.int .i64) w b 0 (A.map fun k:Bl n=>((k.1:Nat):Int)).toArray:=by
 unfold Sort.putRow
 congr 1
 funext c
 unfold Sort.putCells
 apply Array.ext_getElem?
 intro i
 rw [Array.getElem?_mapIdx,Array.getElem?_mapIdx]
 cases c[i]? with
 | none=>rfl
 | some x =>
  simp only [Option.map_some,List.size_toArray,List.length_map,Nat.zero_add,Nat.zero_le,true_and,Nat.sub_zero]
  split
  · rename_i h
    rw [getElem!_pos _ _ (by simpa using h),getElem!_pos _ _ (by simpa using h)]
    simp [encB]
  · rfl
theorem SortFunc_row (rk:Nat→Dg) (n:Nat) (hn0:1≤n) (hn:n < 1000000) (b cap:Nat) (cs:List D) (l:List Nat) (hl:l.length=n) (hlt:∀ k ∈ l,k < n) (s7 g7 rb c2:Nat) (rs:List D) (L:Hp) (σ:List Hp) (G:Gh)
 (hb:G.c b=some cs) (hr:Row 1 n cap (l.map eN) cs) (h7:L s7=⟨g7,some [.gs rb 0 n c2]⟩) (hrb:G.c rb=some rs) (hrs:Row 16 n c2 (((List.range n).map rk).map eD) rs) (n2:b ≠ rb) :
 CallT Tryz.prog f_zz7 [.d (.gs b 0 n cap),.func f_zz38 [(1,s7,g7)]] (L::σ) G fun r σ' G'=>σ'=L::σ∧r=.tup []∧G'=G.set b (some ((ordL (rkL rk) l).map eN ++ cs.drop n)):=by
 intro S ms w args m0 hsz hrel hargs _
 obtain ⟨v0,v1,rfl⟩:∃ v0 v1,args=#[v0,v1]:=by
  rcases args with ⟨l⟩
  match l,hsz with
  | [x,y],_=>exact ⟨x,y,rfl⟩
 have h0:VRD S (.gs b 0 n cap) v0:=hargs 0
 have h1:VR S (noHp::L::σ) (m0::ms) (.func f_zz38 [(1,s7,g7)]) v1:=hargs 1
 cases h0
 obtain ⟨cv,rfl,hcl,hch⟩:=h1
 obtain ⟨vs,e,hvs,hvr,hone⟩:=hrel.gbox hb
 obtain ⟨ml,mr,rfl⟩:∃ ml mr,ms=ml::mr:=by
  cases ms with
  | nil=>have:=hrel.len; simp at this
  | cons x xs=>exact ⟨x,xs,rfl⟩
 have hlive:Live (L::σ) (ml::mr) 0 s7 (ml s7) [.gs rb 0 n c2]:=⟨L,ml,rfl,rfl,by rw [h7],rfl⟩
 obtain ⟨b7,hb7⟩:∃ b7,b7=ml s7:=⟨_,rfl⟩
 rw [← hb7] at hlive
 obtain ⟨v7,e7,hv7,hvr7,_⟩:=hrel.box hlive
 obtain ⟨vr,er,hvrb,hvrr,_⟩:=hrel.gbox hrb
 have hblt:=hrel.g_lt hb
 have n1:b ≠ b7:=by rintro rfl; exact hrel.gnl hb hlive
 have hcv:cv=#[Value.pointer (some ⟨b7,0,none⟩)]:=by
  rcases cv with ⟨cl⟩
  match cl,hcl with
  | [x],_ =>
   have:=hch 0 (1,s7,g7) x rfl rfl
   obtain ⟨h',m',b',e1,e2,e3,_,e4⟩:=this
   cases e1
   cases e2
   have e5:b'=ml s7:=e4 (by rw [h7]; simp) (by rw [h7])
   rw [e3,e5,← hb7]
 subst hcv
 have hc7:w.cell? ⟨b7,0,none⟩=some (.slice (some ⟨rb,0,none⟩) n c2):=by
  obtain ⟨v,hv,hrd⟩:=hvr7.get (j:=0) (x:=.gs rb 0 n c2) rfl
  cases hrd
  simp only [World.cell?,hv7]
  rw [Array.getElem?_toList] at hv
  exact hv
 have hcr:∀ a,a < n→w.rangeAt rb (a * 16) (dgV (rkL rk a)):=by
  intro a ha j v hv
  have hj:j < 16:=by
   have:=(List.getElem?_eq_some_iff.1 hv).1
   rwa [List.length_map,(rk a).2] at this
  have hg:=hrs.get (i:=a) (by simpa using ha)
  have hg2:(List.map eD (List.map rk (List.range n)))[a]'(by simpa using ha)=eD (rk a):=by simp
  rw [hg2,eD_cells] at hg
  have hx:rs[a * 16 + j]?=some (eB ((rk a).1[j]'(by rw [(rk a).2]; exact hj))):=by
   have h1:((rs.drop (a * 16)).take 16)[j]?=rs[a * 16 + j]?:=by rw [List.getElem?_take,if_pos hj,List.getElem?_drop]
   rw [← h1,hg,List.getElem?_map,List.getElem?_eq_getElem (by rw [(rk a).2]; exact hj)]; rfl
  obtain ⟨v',hv',hrd⟩:=hvrr.get hx
  have e1:=hrd.int_inv
  simp only [World.cell?,hvrb]
  rw [Array.getElem?_toList] at hv'
  show vr[a * 16 + j]?=some v
  rw [hv',e1]
  rw [List.getElem?_map,List.getElem?_eq_getElem (by rw [(rk a).2]; exact hj)] at hv
  exact hv
 haveI:Inhabited (Bl n):=⟨⟨0,by omega⟩⟩
 have cfB:∀ x y:Bl n,(ltOf (fun x y:Bl n=>cfO (rkL rk) x.1 y.1)) x y=decide (ltR (rkL rk) x.1 y.1):=fun x y=>by
  unfold ltOf
  exact decide_eq_decide.2 (cfO_lt rk x.1 y.1)
 have hO:Go.Sort.SWO (ltOf (fun x y:Bl n=>cfO (rkL rk) x.1 y.1)):={
  irrefl:=fun x=>by rw [cfB]; exact decide_eq_false (ltR_irrefl _ _)
  trans:=fun x y z h1 h2=>by
   rw [cfB] at *
   exact decide_eq_true (ltR_trans (of_decide_eq_true h1) (of_decide_eq_true h2))
  ntrans:=fun x y z h1 h2=>by
   rw [cfB] at *
   refine decide_eq_false fun h=>?_
   have h1':=of_decide_eq_false h1
   have h2':=of_decide_eq_false h2
   by_cases e:y.1=x.1
   · rw [← e] at h; exact h2' h
   · have:ltR (rkL rk) y.1 x.1:=Decidable.byContradiction fun h3=>e (ltR_total h3 h1')
     exact h2' (ltR_trans this h) }
 have hT:∀ x y:Bl n,ltOf (fun x y:Bl n=>cfO (rkL rk) x.1 y.1) x y=false→ltOf (fun x y:Bl n=>cfO (rkL rk) x.1 y.1) y x=false→x=y:=fun x y h1 h2=>by
  rw [cfB] at h1 h2
  exact Subtype.ext (ltR_total (of_decide_eq_false h1) (of_decide_eq_false h2))
 obtain ⟨d,hd⟩:∃ d:List (Bl n),d.map (·.1)=l:=⟨l.attach.map fun k=>⟨k.1,hlt k.1 k.2⟩,by rw [List.map_map]; exact List.attach_map_subtype_val l⟩
 have hdl:d.length=n:=by have:=congrArg List.length hd; rw [List.length_map] at this; omega
 have eg:∀ args w,(callFunc 53 args).run Tryz.prog w=.ok (.enter 53 args) w:=enters_of Tryz.func53 (by kernel_rfl) rfl
 have hlt7:=hrel.block_lt hlive
 have hltr:=hrel.g_lt hrb
 have hcmp:CmpLays1 Tryz.prog 53 #[.pointer (some ⟨b7,0,none⟩)] (encB (n:=n)) (fun x y:Bl n=>cfO (rkL rk) x.1 y.1) b 0 d.toArray.size w:=by
  intro m os dk hs x y
  have hW:∀ a:Addr,a.block < w.heap.size→a.block ≠ b→(sortWorld encB w b 0 m dk os).cell? a=w.cell? a:=fun a ha hne=>by
   unfold sortWorld
   rw [Sort.cell?_grow _ _ _ (by rw [Sort.size_putRow]; exact ha),Sort.cell?_putRow_other _ _ _ _ _ _ (.inl hne)]
   rfl
  exact ord42 b7 rb c2 n (rkL rk) (fun a=>(rk a).2) (sortWorld encB w b 0 m dk os) ((hW _ hlt7 (Ne.symm n1)).trans hc7)
   (fun a ha j v hv=>(hW ⟨rb,a * 16 + j,none⟩ hltr (Ne.symm n2)).trans (hcr a ha j v hv)) x.1 y.1 x.2 y.2 hn
 have htk:vs.toList.take n=(l.map fun k:Nat=>(k:Int)).map (Value.int .i64):=by
  have:=hvr.take n
  have e1:cs.take n=(l.map fun k:Nat=>(k:Int)).map eI:=by
   have h2:=hr.eq
   have e0:l.map eN=(l.map fun k:Nat=>(k:Int)).map eI:=by rw [List.map_map]; rfl
   rw [Nat.mul_one,e0,flat_int] at h2; exact h2
  rw [e1] at this
  exact vrds_ints this
 have hlen:n≤vs.size:=by have:=congrArg List.length htk; simp at this; omega
 have hll:(l.map fun k:Nat=>(k:Int)).length=n:=by rw [List.length_map,hl]
 have hH0:=holds_of_blockI (ss:=l.map fun k:Nat=>(k:Int)) hvs (by rw [hll]; exact htk)
 have hde:(d.map fun k:Bl n=>((k.1:Nat):Int))=l.map fun k:Nat=>(k:Int):=by rw [← hd,List.map_map]; rfl
 have hH:Sort.Holds (encB (n:=n)) w b 0 d.toArray:=by
  intro j hj
  have hj':j < d.length:=by simpa using hj
  have h3:=hH0 j (by rw [List.size_toArray,hll]; omega)
  refine ⟨h3.1.trans ?_,h3.2⟩
  rw [← hde,getElem!_pos _ _ (by simpa using hj'),getElem!_pos d.toArray j hj]
  simp [encB]
 have hcall:=Any.slices_SortFunc_total sortF (encB (n:=n)) encB_one (fun x y:Bl n=>cfO (rkL rk) x.1 y.1) hO 53 #[.pointer (some ⟨b7,0,none⟩)] b 0 cap d.toArray w eg hcmp hH hblt (by simp; omega) hT
 have hsz2:d.toArray.size=n:=by simpa using hdl
 rw [hsz2] at hcall
 have hord:(d.mergeSort fun x y=>!ltOf (fun x y:Bl n=>cfO (rkL rk) x.1 y.1) y x).map (fun k:Bl n=>((k.1:Nat):Int))=(ordL (rkL rk) l).map fun k:Nat=>(k:Int):=by
  have h1:(d.mergeSort fun x y=>!ltOf (fun x y:Bl n=>cfO (rkL rk) x.1 y.1) y x).map (·.1)=ordL (rkL rk) l:=by
   rw [ordL,← hd]
   exact List.map_mergeSort fun a _ c _=>by rw [cfB]
  rw [← h1,List.map_map]; rfl
 refine .inl ⟨sortFCalled,hcall.mono fun ex w' ⟨he,m,os,hw⟩=>⟨_,he,?_⟩⟩
 subst hw
 have hpl:((ordL (rkL rk) l).map fun k:Nat=>(k:Int)).length=n:=by rw [List.length_map,(ordL_perm _ _).length_eq,hl]
 have hput:sortWorld (encB (n:=n)) w b 0 m (d.mergeSort fun x y=>!ltOf (fun x y:Bl n=>cfO (rkL rk) x.1 y.1) y x).toArray os=Sort.grow (Sort.putRow (Value.int .i64) (Sort.ahead w m) b 0 ((ordL (rkL rk) l).map fun k:Nat=>(k:Int)).toArray) os:=by
  rw [← hord]
  exact congrArg (Sort.grow · os) (putRow_conv _ _ _)
 have hpost:=post_row ((ordL (rkL rk) l).map fun k:Nat=>(k:Int)) hrel hb hvs hvr hone (by rw [hpl]; exact hlen) m os
 rw [← hput,hpl,List.map_map] at hpost
 exact hpost
end Go.Proofs.YtclmdhceceacoaaGreatDoor
/-
 Layer 44: Order of the program.
 Conditions: of each contract as it says.
-/
namespace Go.Proofs.YtclmdhceceacoaaGreatDoor
open Go Go.E2 CW CH C44 Go.RowKit
set_option linter.unusedSimpArgs false
set_option maxHeartbeats 4000000
theorem SortFunc_none (b cap:Nat) (v:AV) (σ:List Hp) (G:Gh):CallT Tryz.prog f_zz7 [.d (.gs b 0 0 cap),v] σ G fun r σ' G'=>σ'=σ∧r=.tup []∧G'=G:=by
 intro S ms w args m0 hsz hrel hargs _
 obtain ⟨v0,v1,rfl⟩:∃ v0 v1,args=#[v0,v1]:=by
  rcases args with ⟨l⟩
  match l,hsz with
  | [x,y],_=>exact ⟨x,y,rfl⟩
 have h0:VRD S (.gs b 0 0 cap) v0:=hargs 0
 cases h0
 refine .inl ⟨sortFCalled,(AnyF.slices_SortFunc_none (P:=Tryz.prog) (ρ:=sortF_ren) { sortF with } _ cap v1 w).mono fun e w' ⟨he,hw⟩=>⟨_,he,?_⟩⟩
 subst hw
 exact ⟨S,.tup [],σ,G,⟨rfl,rfl,rfl⟩,hrel,Evo.refl _ _ _ _,Shape.refl _,⟨#[],rfl,⟨rfl,fun j x v hx _=>by simp at hx⟩⟩,OldG.refl _ _ _ _⟩
def rkO (lot:Dg) (k:Nat):Dg:=⟨undr lot.1 1 k,undr_len _ _ _⟩
def ordO (lot:Dg) (n:Nat):List Nat:=ordL (rkL (rkO lot)) (List.range n)
theorem Order_bad (lot:Dg) (n:Int) (h:n < 0∨1000 < n):CallP Tryz.prog f_zz46 [eD lot,eI n] (·=.tup [.nilS,eI 3]):=by
 refine callP_of_W fol zz46_cp ?_
 obtain ⟨d1,d2,d3,d4⟩:=dgOk lot.2
 have d5:=lot.2
 by_cases h1:n < 0
 · refine goS (nn eD_mk (nn d1 (nn d2 d3))) ?_
   (refine goX (nn h1 (nn d1 (nn d2 (nn d3 d5)))) ?_; (repeat' (with_reducible apply Br.mk<;>intro _)))
   exact Fin.p rfl rfl
 · have h2:n > 1000:=by omega
   refine goS (nn eD_mk (nn d1 (nn d2 d3))) ?_
   (refine goX (nn h1 (nn h2 (nn d1 (nn d2 (nn d3 d5))))) ?_; (repeat' (with_reducible apply Br.mk<;>intro _)))
   exact Fin.p rfl rfl
theorem wC_fg {P:Program} {d:Option Nat} {f:AO} {args:List AO} {ρ:Env} {L:Hp} {σ:List Hp} {G:Gh} {K:St→Prop} {h:Hide K} {g:FuncId} {vs:List AV} {Q:AV→Gh→Prop} (hc:CallT P g vs (L::σ) G fun r σ' G'=>σ'=L::σ∧Q r G')
 (ht:target (ev ρ f)=some (g,[])) (hv:(args.map (ev ρ)).map sh=vs) (hK:∀ r G',Q r G'→K (put ρ d r,L,σ,G')):wC P d f args 0 ρ L σ G h:=by
 show callW P d f args 0 ρ L σ G K
 unfold callW
 rw [ht]
 simp only [if_true]
 subst hv
 rw [List.append_nil]
 refine hc.mono fun r σ' G' ⟨e,hq⟩=>?_
 subst e
 exact hK r G' hq
theorem rep_cells (x:D) (k:Nat):rep k x.cells=flat (List.replicate k x):=by
 induction k with
 | zero=>rfl
 | succ k ih=>simp only [List.replicate_succ,flat_cons,← ih]; simp [rep,List.replicate_succ]
theorem row_rep {sz:Nat} (x:D) (h:sizeOk sz x=true) (n:Nat):Row sz n n (List.replicate n x) (rep n x.cells):=by
 have ha:(List.replicate n x).all (sizeOk sz)=true:=by rw [List.all_eq_true]; intro y hy; rw [(List.mem_replicate.1 hy).2]; exact h
 have:=Row.mk' (sz:=sz) (n:=n) (cap:=n) (es:=List.replicate n x) (rest:=[]) (by simp) ha (Nat.le_refl _) (by rw [List.append_nil,flat_length ha]; simp)
 rwa [List.append_nil,← rep_cells] at this
def oL (n k:Nat):List Nat:=List.range k ++ List.replicate (n - k) 0
def rL (lot:Dg) (n k:Nat):List Dg:=(List.range k).map (rkO lot) ++ List.replicate (n - k) zDg
theorem oL_len {n k:Nat} (h:k≤n):(oL n k).length=n:=by simp [oL]; omega
theorem rL_len {lot:Dg} {n k:Nat} (h:k≤n):(rL lot n k).length=n:=by simp [rL]; omega
theorem set_app {α:Type} (l:List α) (m:Nat) (z x:α) (hm:0 < m):(l ++ List.replicate m z).set l.length x=l ++ [x] ++ List.replicate (m - 1) z:=by
 obtain ⟨m,rfl⟩:∃ k,m=k + 1:=⟨m - 1,by omega⟩
 rw [List.set_append_right _ _ (Nat.le_refl _),Nat.sub_self,List.replicate_succ,List.set_cons_zero,Nat.add_sub_cancel,List.append_assoc]; rfl
theorem oL_set {n k:Nat} (h:k < n):(oL n k).set k k=oL n (k + 1):=by
 have:=set_app (List.range k) (n - k) 0 k (by omega)
 rw [List.length_range] at this
 rw [oL,this,oL,List.range_succ,Nat.sub_sub]
theorem rL_set {lot:Dg} {n k:Nat} (h:k < n):(rL lot n k).set k (rkO lot k)=rL lot n (k + 1):=by
 have:=set_app ((List.range k).map (rkO lot)) (n - k) zDg (rkO lot k) (by omega)
 rw [List.length_map,List.length_range] at this
 rw [rL,this,rL,List.range_succ,List.map_append,Nat.sub_sub]; rfl
theorem Order_ok (lot:Dg) (n:Nat) (hn:n≤1000):CallP Tryz.prog f_zz46 [eD lot,eN n] (·=.tup [.list ((ordO lot n).map eN),eI 0]):=by
 refine CallP.of_deep (callT_of_W fol zz46_cp ?_)
 obtain ⟨d1,d2,d3,d4⟩:=dgOk lot.2
 have d5:=lot.2
 have hm:=mostBytes_eq
 have h1:¬ (n:Int) < 0:=by omega
 have h2:¬ (n:Int) > 1000:=by omega
 refine goS (nn eD_mk (nn d1 (nn d2 d3))) ?_
 have hnn:(n:Int)≤(n:Int):=Int.le_refl _
 have q1:n * 8≤140737488355328:=by omega
 have q2:n * 16≤140737488355328:=by omega
 (refine goX (nn h1 (nn h2 (nn d1 (nn d2 (nn d3 (nn d5 (nn hnn (nn q1 q2)))))))) ?_; (repeat' (with_reducible apply Br.mk<;>intro _)))
 refine wNew_mk fun b hb=>?_
 simp -dsimp (disch:=first|omega|(simp only [go_sem]; omega)) only [go_sem,seval,Nat.reduceEqDiff,Nat.reduceLeDiff,Int.toNat_natCast,hnn,q2]
 refine wNew_mk fun rb hrb=>?_
 simp -dsimp (disch:=first|omega|(simp only [go_sem]; omega)) only [go_sem,seval,Nat.reduceEqDiff,Nat.reduceLeDiff,Int.toNat_natCast]
 have hne:b ≠ rb:=by
  rintro rfl
  simp [upd] at hrb
 have hcb:((noGh.set b (some (rep n [eI 0]))).set rb (some (rep n (zr 16 (.int .u8 0))))).c b=some (rep n [eI 0]):=by simp [upd,hne]
 have hcr:((noGh.set b (some (rep n [eI 0]))).set rb (some (rep n (zr 16 (.int .u8 0))))).c rb=some (rep n (zr 16 (.int .u8 0))):=by simp [upd]
 have hr1:Row 1 n n ((oL n 0).map eN) (rep n [eI 0]):=by
  have:=row_rep (sz:=1) (eN 0) rfl n
  have e:(oL n 0).map eN=List.replicate n (eN 0):=by simp [oL]
  rw [e]; exact this
 have hr2:Row 16 n n ((rL lot n 0).map eD) (rep n (zr 16 (.int .u8 0))):=by
  have:=row_rep (sz:=16) (eD zDg) (eD_size _) n
  have e:(rL lot n 0).map eD=List.replicate n (eD zDg):=by simp [rL]
  rw [e]; exact this
 generalize (noGh.set b (some (rep n [D.int IntKind.i64 0]))).set rb (some (rep n (zr 16 (D.int IntKind.u8 0))))=G0 at hcb hcr ⊢
 generalize rep n [D.int IntKind.i64 0]=cs0 at hcb hr1
 generalize rep n (zr 16 (D.int IntKind.u8 0))=rs0 at hcr hr2
 (refine goX trivial ?_; (repeat' (with_reducible apply Br.mk<;>intro _)))
 refine W.loop (fun q st=>∃ (k:Nat) (cs rs:List D) (G:Gh),k≤n∧q=n - k∧G.c b=some cs∧G.c rb=some rs∧Row 1 n n ((oL n k).map eN) cs∧Row 16 n n ((rL lot n k).map eD) rs ∧
  st=(E [(21,.d (eN k)),(20,.d (eN n)),(6,.d (.gs b 0 n n)),(7,.ptr 0 7 1 0),(2,.ptr 0 2 1 0)],HB [(2,⟨1,some (lot.1.map eB)⟩),(7,⟨1,some [.gs rb 0 n n]⟩)],[],G))
  ⟨_,_,stleB (by rfl),0,_,_,G0,by omega,rfl,hcb,hcr,hr1,hr2,rfl⟩ ?_
 clear hr1 hr2 hcb hcr hb hrb
 rintro q st ⟨k,cs,rs,G,hk,rfl,hcb,hcr,hr1,hr2,rfl⟩
 by_cases g1:(k:Int) < (n:Int)
 case pos =>
  have hk':k < n:=by omega
  have hu:=under_ok lot.1 lot.2 1 (k:Int) (i64_nat (n:=1) (by omega)) (i64_nat (by omega))
  have hf1:=hr1.fits (i:=k) (by rw [List.length_map,oL_len hk]; exact hk')
  have hf2:=hr2.fits (i:=k) (by rw [List.length_map,rL_len hk]; exact hk')
  have hs1:=hr1.set (i:=k) (by rw [List.length_map,oL_len hk]; exact hk') (x:=eN k) rfl
  have hs2:=hr2.set (i:=k) (by rw [List.length_map,rL_len hk]; exact hk') (x:=eD (rkO lot k)) (eD_size _)
  rw [← List.map_set,oL_set hk'] at hs1
  rw [← List.map_set,rL_set hk'] at hs2
  rw [eD_cells] at hs2
  obtain ⟨e1,e2,e3,e4⟩:=dgOk (rkO lot k).2
  have hue:eDg (undr lot.1 1 (k:Int))=.agg ((rkO lot k).1.map eB):=rfl
  rw [hue] at hu
  unfold eDg at hu
  generalize (rkO lot k).1.map eB=rc at hu hs2 e1 e2 e3 e4
  (repeat' (first|(with_reducible first|refine W.seq ?_|refine W.block ?_|refine W.scope ?_)|((first|(with_reducible first|refine W.reg ?_|refine W.skip ?_|refine W.exit ?_|refine W.ret ?_|refine W.ifc ?_)|(apply wC_P (hu); (focus (simp -dsimp (disch:=first|omega|(simp only [go_sem]; omega)) only [go_sem,seval,Nat.reduceEqDiff,Nat.reduceLeDiff]<;>rfl)); rintro _ rfl)|((with_reducible first|refine wG_decE (fun _ hG=>?_) (fun _ hG=>?_)|refine wG_decFE (fun _ hG=>?_) (fun _ hG=>?_))<;>(try simp -dsimp only [hG,decide_true,decide_false,not_true_eq_false,not_false_eq_true])<;>clear hG))<;>(try simp -dsimp (disch:=first|omega|(simp only [go_sem]; omega)) only [go_sem,seval,Nat.reduceEqDiff,Nat.reduceLeDiff,g1,d1,d2,d3,d5,hk',hcb,hcr,upd_off hne,upd_off hne.symm,hf1,hf2,e1,e2,e3]))|simp -dsimp (disch:=first|omega|(simp only [go_sem]; omega)) only [go_sem,seval,Nat.reduceEqDiff,Nat.reduceLeDiff,g1,d1,d2,d3,d5,hk',hcb,hcr,upd_off hne,upd_off hne.symm,hf1,hf2,e1,e2,e3]))
  have hs1':Row 1 n n ((oL n (k + 1)).map eN) (List.take (k * 1) cs ++ [eN k] ++ List.drop (k * 1 + 1) cs):=hs1
  have hs2':Row 16 n n ((rL lot n (k + 1)).map eD) (List.take (k * 16) rs ++ rc ++ List.drop (k * 16 + 16) rs):=by
   have:=hs2
   unfold over at this
   rw [e1] at this
   exact this
  refine ⟨_,_,?_,stleB (by rfl),k + 1,_,_,_,by omega,rfl,?_,?_,hs1',hs2',rfl⟩
  · omega
  · rw [Gh.set_c,upd_off hne,Gh.set_c]; simp [upd]
  · rw [Gh.set_c]; simp [upd]
 obtain rfl:k=n:=by omega
 have hoL:oL k k=List.range k:=by simp [oL]
 have hrL:rL lot k k=(List.range k).map (rkO lot):=by simp [rL]
 rw [hoL] at hr1
 rw [hrL] at hr2
 by_cases hk0:k=0
 · subst hk0
   (refine goX g1 ?_; (repeat' (with_reducible apply Br.mk<;>intro _)))
   refine wC_fg (Q:=fun r G'=>r=.tup []∧G'=G) (SortFunc_none b 0 _ _ G) rfl rfl ?_
   rintro _ _ ⟨rfl,rfl⟩
   refine goS trivial ?_
   (refine goX trivial ?_; (repeat' (with_reducible apply Br.mk<;>intro _)))
   refine Fin.eq rfl ⟨rfl,_,.tup _ _ (.cons ?_ (.cons (.refl _) .nil)),rfl⟩
   have:=(GV.mk (n:=0) hcb hr1).dr
   have h0:ordO lot 0=List.range 0:=by simp [ordO,ordL]
   rw [h0]
   exact this
 (refine goX g1 ?_; (repeat' (with_reducible apply Br.mk<;>intro _)))
 refine wC_fg (Q:=fun r G'=>r=.tup []∧G'=G.set b (some ((ordO lot k).map eN ++ cs.drop k))) (SortFunc_row (rkO lot) k (by omega) (by omega) b k cs (List.range k) (by simp) (fun j hj=>List.mem_range.1 hj) 7 1 rb k rs _ [] G hcb hr1 (by rfl) hcr hr2 hne) rfl rfl ?_
 rintro _ _ ⟨rfl,rfl⟩
 refine goS trivial ?_
 (refine goX trivial ?_; (repeat' (with_reducible apply Br.mk<;>intro _)))
 refine Fin.eq rfl ⟨rfl,_,.tup _ _ (.cons ?_ (.cons (.refl _) .nil)),rfl⟩
 have hol:(ordO lot k).length=k:=by rw [ordO,(ordL_perm _ _).length_eq,List.length_range]
 have hdr:k * 1≤cs.length:=hr1.ncs
 have hrow:Row 1 (ordO lot k).length k ((ordO lot k).map eN) ((ordO lot k).map eN ++ cs.drop k):=by
  have hfl:flat ((ordO lot k).map eN)=(ordO lot k).map eN:=by
   have:=flat_int ((ordO lot k).map fun j:Nat=>(j:Int))
   rw [List.map_map] at this
   exact this
  have:=Row.mk' (sz:=1) (n:=(ordO lot k).length) (cap:=k) (es:=(ordO lot k).map eN) (rest:=cs.drop k) (by simp) (eN_all _) (by omega) (by rw [hfl,List.length_append,List.length_map,List.length_drop]; omega)
  rw [hfl] at this
  exact this
 have hG:(G.set b (some ((ordO lot k).map eN ++ cs.drop k))).c b=some ((ordO lot k).map eN ++ cs.drop k):=by simp [upd]
 have:=(GV.mk (n:=(ordO lot k).length) hG hrow).dr
 rw [hol] at this
 exact this
end Go.Proofs.YtclmdhceceacoaaGreatDoor
