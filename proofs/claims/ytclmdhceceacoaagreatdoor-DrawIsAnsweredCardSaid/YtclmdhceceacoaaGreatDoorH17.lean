/-
 Layer 44: the value at 0,of the reference.
 Conditions: of each contract as it says.
-/
import Derived.Test.YtclmdhceceacoaaGreatDoorH14
namespace Go.Proofs.YtclmdhceceacoaaGreatDoor
open Go Go.E2 CW CH C44
set_option linter.unusedSimpArgs false
set_option maxHeartbeats 4000000
end Go.Proofs.YtclmdhceceacoaaGreatDoor
/-
 Layer 44: the pieces that are used,by the reference.
 Conditions: of each contract as it says.
-/
namespace Go.Proofs.YtclmdhceceacoaaGreatDoor
open Go Go.E2 CW CH C44
set_option linter.unusedSimpArgs false
set_option maxHeartbeats 4000000
attribute [go_sem] eP
def pOk (t:Tk) (i:Int) (p:Pc):Bool:=decide (p.at_=i) && fits t p
def fst1 (t:Tk) (l:List Pc) (i:Int):Option Pc:=l.find? (pOk t i)
def ul (t:Tk) (l:List Pc):Nat→List Pc
 | 0=>[]
 | k + 1=>ul t l k ++ (fst1 t l ((k + 1:Nat):Int)).toList
theorem ul_len (t:Tk) (l:List Pc):∀ k,(ul t l k).length≤k
 | 0=>Nat.le_refl _
 | k + 1=>by
   have:=ul_len t l k
   rw [ul,List.length_append]
   cases fst1 t l ((k + 1:Nat):Int)<;>simp<;>omega
def us (t:Tk) (l:List Pc):List Pc:=(ul t l t.marks.length).take t.need.toNat
end Go.Proofs.YtclmdhceceacoaaGreatDoor
/-
 Layer 44: Recover,of the reference.
 Conditions: of each contract as it says.
-/
namespace Go.Proofs.YtclmdhceceacoaaGreatDoor
open Go Go.E2 CW CH C44
set_option linter.unusedSimpArgs false
set_option maxHeartbeats 4000000
theorem fst1_some {t:Tk} {l:List Pc} {i:Int} {p:Pc} (h:fst1 t l i=some p):p.at_=i∧fits t p=true∧p ∈ l:=by
 have h1:=List.find?_some h
 unfold pOk at h1
 rw [Bool.and_eq_true,decide_eq_true_eq] at h1
 exact ⟨h1.1,h1.2,List.mem_of_find?_eq_some h⟩
theorem ul_mem {t:Tk} {l:List Pc}:∀ {k:Nat} {p:Pc},p ∈ ul t l k→fits t p=true∧1≤p.at_∧p.at_≤k∧p ∈ l
 | 0,p,h=>by cases h
 | k + 1,p,h=>by
   rw [ul,List.mem_append] at h
   rcases h with h|h
   · obtain ⟨h1,h2,h3,h4⟩:=ul_mem h
     exact ⟨h1,h2,by omega,h4⟩
   · obtain ⟨h1,h2,h3⟩:=fst1_some (Option.mem_toList.1 h)
     exact ⟨h2,by omega,by omega,h3⟩
theorem us_mem {t:Tk} {l:List Pc} {p:Pc} (h:p ∈ us t l):fits t p=true∧p ∈ l :=
 have:=ul_mem (List.mem_of_mem_take h)
 ⟨this.1,this.2.2.2⟩
theorem us_len_le (t:Tk) (l:List Pc):(us t l).length≤t.need.toNat∧(us t l).length≤t.marks.length:=by
 have:=ul_len t l t.marks.length
 rw [us,List.length_take]; omega
theorem fits_iff {t:Tk} {p:Pc}:fits t p=true↔t.valid=true∧(1≤p.at_∧p.at_≤t.marks.length∧0≤p.val∧p.val < 2147483647)∧t.marks[(p.at_ - 1).toNat]?=some (mk3 t.house p.at_ p.val):=by
 unfold fits
 simp only [Bool.and_eq_true,decide_eq_true_eq,and_assoc]
def toQ (p:Pc):Nat × Nat:=(p.at_.toNat,p.val.toNat)
theorem eP_toQ {t:Tk} {p:Pc} (h:fits t p=true):eP p=eQ (toQ p):=by
 obtain ⟨_,h1,_⟩:=fits_iff.1 h
 unfold eP eQ toQ eN
 rw [show ((p.at_.toNat:Nat):Int)=p.at_ by omega,show ((p.val.toNat:Nat):Int)=p.val by omega]
abbrev uQ (t:Tk) (l:List Pc):List (Nat × Nat):=(us t l).map toQ
theorem us_eQ (t:Tk) (l:List Pc):(us t l).map eP=(uQ t l).map eQ:=by
 rw [List.map_map]
 exact List.map_congr_left fun p hp=>eP_toQ (us_mem hp).1
theorem uQ_good (t:Tk) (l:List Pc):gQ (uQ t l):=by
 intro q hq
 obtain ⟨p,hp,rfl⟩:=List.mem_map.1 hq
 obtain ⟨h0,h1,_⟩:=fits_iff.1 (us_mem hp).1
 have:=Tk.valid_iff.1 h0
 have hP:P=2147483647:=rfl
 refine ⟨?_,?_,?_⟩<;>simp only [toQ]<;>omega
def mks (t:Tk) (s:Nat):List Dg:=marksL t.house.toNat s t.need.toNat t.marks.length
def seedOf (t:Tk) (l:List Pc):Nat:=zer (uQ t l)
def reco (t:Tk) (l:List Pc):Nat × Nat :=
 if t.valid=false then (0,1) else if ((us t l).length:Int) < t.need then (0,8) else if mks t (seedOf t l)=t.marks then (seedOf t l,0) else (0,23)
end Go.Proofs.YtclmdhceceacoaaGreatDoor
