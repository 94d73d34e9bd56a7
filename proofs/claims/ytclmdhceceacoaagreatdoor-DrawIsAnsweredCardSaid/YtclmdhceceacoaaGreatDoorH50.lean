/-
 Layer 44: what the arguments of the statements read as; the tables.
 Conditions: none; the package-level tables that the statement lists.
-/
import Derived.Test.YtclmdhceceacoaaGreatDoorH28
import Derived.Test.YtclmdhceceacoaaGreatDoorEL1
import Derived.JoinedOf
import Derived.Test.YtclmdhceceacoaaGreatDoorCards
import Derived.Test.YtclmdhceceacoaaGreatDoorTie
import Derived.OpenShut
import Derived.Deep.DeepHandedRow
import Derived.Lib.LaidTab
import Derived.LaidSub
namespace Go.Proofs.YtclmdhceceacoaaGreatDoor
open Go Go.E2 CW CH C44
open Go.ChangeShapes Go.WideShapes Go.ChangeAt Go.RowKit
abbrev rI (k:IntKind):D→Prop:=fun d=>∃ n,(Lit.int k n).wf=true∧d=.int k n
theorem rd5:Reads Tryz.prog 5 false (rI .u8):=reads_int (by kernel_rfl)
theorem exists_mapA {α:Type} {f:α→D} {es:List D} {P:D→Prop} (hP:∀ d,P d→∃ a,d=f a) (h:∀ d ∈ es,P d):∃ l:List α,es=l.map f:=by
 induction es with
 | nil=>exact ⟨[],rfl⟩
 | cons e es ih =>
  obtain ⟨l,hl⟩:=ih fun d hd=>h d (List.mem_cons_of_mem _ hd)
  obtain ⟨a,ha⟩:=hP e (h e List.mem_cons_self)
  exact ⟨a::l,by rw [List.map_cons,ha,hl]⟩
theorem parts_rep {R:D→Prop}:∀ {n:Nat} {ds:List D},Parts (List.replicate n R) ds→ds.length=n∧∀ d ∈ ds,R d
 | 0,ds,h=>by obtain rfl:=parts_nil h; exact ⟨rfl,fun d hd=>by cases hd⟩
 | n + 1,ds,h=>by
   rw [List.replicate_succ] at h
   obtain ⟨d,ds',rfl,h1,h2⟩:=parts_cons h
   obtain ⟨h3,h4⟩:=parts_rep h2
   exact ⟨by rw [List.length_cons,h3],fun x hx=>by rcases List.mem_cons.1 hx with rfl|hx; exact h1; exact h4 x hx⟩
theorem wf_u8 {n:Int} (h:(Lit.int .u8 n).wf=true):0≤n∧n < 256:=by
 have:0≤n∧n≤255:=by simpa [Lit.wf,IntKind.min,IntKind.max,IntKind.signed,IntKind.bits] using h
 omega
theorem flat_one {l:List D} (h:∀ d ∈ l,d.cells=[d]):flat l=l:=by
 induction l with
 | nil=>rfl
 | cons x l ih=>rw [flat_cons,h x List.mem_cons_self,ih fun d hd=>h d (List.mem_cons_of_mem _ hd)]; rfl
set_option maxRecDepth 100000 in
theorem rd57:Reads Tryz.prog 27 false (fun d=>∃ g:Dg,d=eD g) :=
 reads_mono (reads_array (Rs:=List.replicate 16 (rI .u8)) (n:=16) (e:=5) (by kernel_rfl) (show LayL Tryz.prog false 0 [(0 * Tryz.prog.cellsOf 5,5),(1 * Tryz.prog.cellsOf 5,5),(2 * Tryz.prog.cellsOf 5,5),(3 * Tryz.prog.cellsOf 5,5),(4 * Tryz.prog.cellsOf 5,5),(5 * Tryz.prog.cellsOf 5,5),(6 * Tryz.prog.cellsOf 5,5),(7 * Tryz.prog.cellsOf 5,5),(8 * Tryz.prog.cellsOf 5,5),(9 * Tryz.prog.cellsOf 5,5),(10 * Tryz.prog.cellsOf 5,5),(11 * Tryz.prog.cellsOf 5,5),(12 * Tryz.prog.cellsOf 5,5),(13 * Tryz.prog.cellsOf 5,5),(14 * Tryz.prog.cellsOf 5,5),(15 * Tryz.prog.cellsOf 5,5)] (List.replicate 16 (rI .u8)) from ⟨by kernel_rfl,rd5,by kernel_rfl,rd5,by kernel_rfl,rd5,by kernel_rfl,rd5,by kernel_rfl,rd5,by kernel_rfl,rd5,by kernel_rfl,rd5,by kernel_rfl,rd5,by kernel_rfl,rd5,by kernel_rfl,rd5,by kernel_rfl,rd5,by kernel_rfl,rd5,by kernel_rfl,rd5,by kernel_rfl,rd5,by kernel_rfl,rd5,by kernel_rfl,rd5,trivial⟩) (by kernel_rfl)) (by
  rintro d ⟨parts,hp,rfl⟩
  obtain ⟨hl,hr⟩:=parts_rep hp
  obtain ⟨l,rfl⟩:=exists_mapA (f:=eB) (fun d (hd:rI .u8 d)=>by
   obtain ⟨n,hw,rfl⟩:=hd
   have:=wf_u8 hw
   exact ⟨UInt8.ofNat n.toNat,by
    show D.int .u8 n=.int .u8 ((UInt8.ofNat n.toNat).toNat:Int)
    rw [UInt8.toNat_ofNat',Nat.mod_eq_of_lt (by omega)]
    congr 1
    omega⟩) hr
  rw [List.length_map] at hl
  refine ⟨⟨l,hl⟩,?_⟩
  rw [flat_one (fun d hd=>by obtain ⟨b,_,rfl⟩:=List.mem_map.1 hd; rfl)]
  rfl)
theorem own:ownKnob Tryz.prog.godebug=none:=by kernel_rfl
theorem gRef : Tryz.prog.globalNamed "quietus/quietusref02.constants" = some 1 := by kernel_rfl
theorem gHash : Tryz.prog.globalNamed "quietus/hash.constants" = some 2 := by kernel_rfl
theorem gRefT:(Tryz.prog.globals[1]?).map (·.type)=some 160:=by kernel_rfl
theorem gHashT:(Tryz.prog.globals[2]?).map (·.type)=some 160:=by kernel_rfl
theorem cells156:Tryz.prog.cellsOf 160=64:=by kernel_rfl
theorem cells47:Tryz.prog.cellsOf 39=1:=by kernel_rfl
abbrev laidK : List (String × DataW Unit) := [("quietus/quietusref02.constants", Rows.laid_quietus_quietusref02_constants), ("quietus/hash.constants", Rows.laid_quietus_hash_constants)]
theorem laid_tab1:(Rows.laid_quietus_quietusref02_constants:DataW Unit)=Lib.tabData .u32 k256:=by kernel_rfl
theorem laid_tab2:(Rows.laid_quietus_hash_constants:DataW Unit)=Lib.tabData .u32 k256:=by kernel_rfl
theorem tabOk_of {W:World} (h:laidMetH Tryz.prog laidK W):TabOk (stb W):=by
 have h1 : Lib.TabIs Tryz.prog W "quietus/quietusref02.constants" .u32 k256 := by
  have hk : laidK = ("quietus/quietusref02.constants", Lib.tabData .u32 k256) :: [("quietus/hash.constants", Lib.tabData .u32 k256)] := by
   show [("quietus/quietusref02.constants", Rows.laid_quietus_quietusref02_constants), ("quietus/hash.constants", Rows.laid_quietus_hash_constants)] = _
   rw [laid_tab1,laid_tab2]
  have h':laidMet Tryz.prog laidK W:=h
  rw [hk] at h'
  exact Lib.tabIs_of_head gRef gRefT Tryz.underlying160 Tryz.underlying39 cells47 cells156 h'
 have h2 : Lib.TabIs Tryz.prog W "quietus/hash.constants" .u32 k256 := by
  have h' := laidMetH.filter (fun x => x.1 == "quietus/hash.constants") h
  have h'' : laidMet Tryz.prog [("quietus/hash.constants", Rows.laid_quietus_hash_constants)] W := h'
  rw [laid_tab2] at h''
  exact Lib.tabIs_of_head gHash gHashT Tryz.underlying160 Tryz.underlying39 cells47 cells156 h''
 have key:∀ (g:Nat),(∀ i,i < k256.length→W.cell? ⟨g,i,none⟩=some (.int .u32 (k256.getD i 0)))→∃ c:List Value,VRDs (stb W) (k256.map (D.int .u32)) c∧(k256.map (D.int .u32)).all D.one=true∧∀ (j:Nat) (u:Value),c[j]?=some u→stb W ⟨g,j,none⟩=some u:=fun g hg=>by
  refine ⟨k256.map (Value.int .u32),⟨by simp,fun j x v hx hv=>?_⟩,by rfl,fun j u hu=>?_⟩
  · rw [List.getElem?_map] at hx hv
    cases hj:k256[j]? with
    | none=>rw [hj] at hx; cases hx
    | some n=>rw [hj] at hx hv; cases hx; cases hv; exact VRD.int _ _
  · have hj:j < k256.length:=by
     have:=(List.getElem?_eq_some_iff.1 hu).1
     rwa [List.length_map] at this
    rw [List.getElem?_map,List.getElem?_eq_getElem hj] at hu
    cases hu
    show W.cell? ⟨g,j,none⟩=_
    rw [hg j hj,List.getD_eq_getElem?_getD,List.getElem?_eq_getElem hj]; rfl
 intro g cs e
 unfold tabs at e
 split at e
 · cases e; exact key 1 fun i hi=>h1.cell gRef i hi
 · cases e; exact key 2 fun i hi=>h2.cell gHash i hi
 · cases e
def putK:Obj→Obj
 | .cells _ t frozen=>.cells (k256.map (Value.int .u32)).toArray t frozen
 | o=>o
noncomputable def laidWorld (os:Os):World :=
 { World.holding Tryz.prog os ⟨#[],#[],[]⟩ with heap:=((World.holding Tryz.prog os ⟨#[],#[],[]⟩).heap.modify 1 putK).modify 2 putK }
end Go.Proofs.YtclmdhceceacoaaGreatDoor
