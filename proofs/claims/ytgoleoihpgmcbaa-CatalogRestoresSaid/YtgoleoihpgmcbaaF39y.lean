/-
 Layer 39 (catalog),continued: the statement CatalogForgets.
 Conditions: none; every input.
-/
import Derived.Test.YtgoleoihpgmcbaaF39w
import Derived.Test.YtgoleoihpgmcbaaF39x
namespace Go.Proofs.Ytgoleoihpgmcbaa
open Go Go.E2 C39
open Go.ChangeShapes Go.WideShapes Go.RowKit
theorem rv50:ReadsV Try.prog 50 rOs :=
 readsV_mono (readsV_slice (e:=27) (sz:=7) (by kernel_rfl) (by kernel_rfl) (by decide) rd27) (by
  rintro d ⟨es,h,_,_,rfl⟩
  obtain ⟨l,_,rfl⟩:=exists_map h
  exact ⟨l,rfl⟩)
end Go.Proofs.Ytgoleoihpgmcbaa
