/-
 Layer 21 (disk),continued: what the statements write.
 Conditions: of each contract as it says.
-/
import Derived.Test.YtioojmlhmhgeeaaF22k
import Derived.Test.YtioojmlhmhgeeaaS22c
namespace Go.Proofs.Ytioojmlhmhgeeaa
open Go Go.E2 C22
set_option linter.unusedSimpArgs false
set_option maxHeartbeats 1000000
structure Wr where
 kind:Int
 a:Int
 b:Int
def eW (x:Wr):D:=.agg [.int .i64 x.kind,.int .i64 x.a,.int .i64 x.b]
attribute [go_sem] eW
@[go_sem] theorem eW_size (x:Wr):sizeOk 3 (eW x)=true:=rfl
@[go_sem] theorem eW_all (l:List Wr):(l.map eW).all (sizeOk 3)=true:=by rw [List.all_eq_true]; intro x hx; obtain ⟨s,_,rfl⟩:=List.mem_map.1 hx; rfl
def rowsA (xs:List D) (os:List (List Sec)):List As:=List.zipWith (fun x o=>SlA 64 x (o.map eS)) xs os
def OpsA (xs:List D) (os:List (List Sec)):As:=Star (rowsA xs os)
theorem perm_out {α:Type} {l:List α} {i:Nat} (h:i < l.length):l.Perm (l[i]::l.eraseIdx i):=by
 rw [List.eraseIdx_eq_take_drop_succ]
 conv=>lhs; rw [← List.take_append_drop i l,List.drop_eq_getElem_cons h]
 exact List.perm_middle
theorem perm_in {α:Type} {l:List α} {i:Nat} (h:i < l.length) (a:α):(l.set i a).Perm (a::l.eraseIdx i):=by
 rw [List.eraseIdx_eq_take_drop_succ,List.set_eq_take_append_cons_drop,if_pos h]
 exact List.perm_middle
theorem rowsA_set (xs:List D) (os:List (List Sec)) (i:Nat) (x:D) (o:List Sec):rowsA (xs.set i x) (os.set i o)=(rowsA xs os).set i (SlA 64 x (o.map eS)):=by
 unfold rowsA
 apply List.ext_getElem
 · simp
 · intro j h1 h2
   simp only [List.getElem_zipWith,List.getElem_set]
   split<;>rfl
theorem OpsA.out {xs:List D} {os:List (List Sec)} {R:List As} {G:Gh} {i:Nat} (hx:i < xs.length) (ho:i < os.length) (h:Sep (OpsA xs os::R) G):Sep (SlA 64 xs[i] (os[i].map eS)::Star ((rowsA xs os).eraseIdx i)::R) G:=by
 have hl:i < (rowsA xs os).length:=by simp only [rowsA,List.length_zipWith]; omega
 have h2:=h.app.perm ((perm_out hl).append_right R)
 have e:(rowsA xs os)[i]=SlA 64 xs[i] (os[i].map eS):=by simp [rowsA]
 rw [e] at h2
 exact h2.cons fun _=>Sep.of_app
theorem OpsA.into {xs:List D} {os:List (List Sec)} {R:List As} {G:Gh} {i:Nat} (hx:i < xs.length) (ho:i < os.length) {x:D} {o:List Sec} (h:Sep (SlA 64 x (o.map eS)::Star ((rowsA xs os).eraseIdx i)::R) G):Sep (OpsA (xs.set i x) (os.set i o)::R) G:=by
 have hl:i < (rowsA xs os).length:=by simp only [rowsA,List.length_zipWith]; omega
 have h2:=h.cons fun _=>Sep.app
 have h3:=h2.perm (l':=(rowsA xs os).set i (SlA 64 x (o.map eS)) ++ R) ((perm_in hl _).append_right R).symm
 rw [← rowsA_set] at h3
 exact Sep.of_app h3
end Go.Proofs.Ytioojmlhmhgeeaa
