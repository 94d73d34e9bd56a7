/-
 Layer 39 (catalog),continued: the specification's lists.
 Conditions: of each contract as it says.
-/
import Derived.Test.YtgoleoihpgmcbaaF39m
namespace Go.Proofs.Ytgoleoihpgmcbaa
open Go Go.E2 C39
set_option linter.unusedSimpArgs false
set_option maxHeartbeats 1000000
theorem take_filter {α:Type} {l:List α} {k:Nat} (h:k < l.length) (p:α→Bool):(l.take (k + 1)).filter p=(l.take k).filter p ++ (if p l[k]=true then [l[k]] else []):=by
 rw [List.take_succ_eq_append_getElem h,List.filter_append]
 congr 1
 by_cases hb:p l[k]=true<;>simp [hb]
end Go.Proofs.Ytgoleoihpgmcbaa
/-
 Layer 39 (catalog),continued: what the specification's Do does.
 Conditions: of each contract as it says.
-/
namespace Go.Proofs.Ytgoleoihpgmcbaa
open Go Go.E2 C39
set_option linter.unusedSimpArgs false
set_option maxHeartbeats 1000000
def eM (c:Ct) (n e:Int):D:=.agg [.int .i64 c.now,.list (c.ents.map eE),.list (c.snaps.map eS),.int .i64 n,.int .i64 e]
attribute [go_sem] eM
end Go.Proofs.Ytgoleoihpgmcbaa
