/-
 Layer 39 (catalog),continued: the statement CatalogForgets.
 Conditions: none; every input.
-/
import Derived.Test.YtgoleoihpgmcbaaF39w
import Derived.Test.YtgoleoihpgmcbaaF39x
namespace Go.Proofs.Ytgoleoihpgmcbaa
open Go Go.E2 C39
open Go.ChangeShapes Go.WideShapes Go.RowKit
theorem rv50:ReadsV Try.prog 50 rOs :=
 readsV_mono (readsV_slice (e:=27) (sz:=7) (by kernel_rfl) (by kernel_rfl) (by decide) rd27) (by
  rintro d ⟨es,h,_,_,rfl⟩
  obtain ⟨l,_,rfl⟩:=exists_map h
  exact ⟨l,rfl⟩)
theorem lay2:LayV Try.prog [50] [rOs]:=⟨rv50,trivial⟩
theorem call2 {f:FuncId} (h:∀ l:List Co,CallP Try.prog f [.list (l.map eO)] (·=.d (.bool true))):∀ xs,Parts [rOs] xs→CallP Try.prog f xs (·=.d (.bool true)):=by
 intro xs hp
 obtain ⟨_,_,rfl,⟨l,rfl⟩,hp1⟩:=parts_cons hp
 obtain rfl:=parts_nil hp1
 exact h l
set_option maxRecDepth 100000 in
theorem forgets_lifted (os:Os) (started:os.Started) (H:Type) (enc:TypeId × Value→H) :
 ReturnsInHanded {} Try.checked os 4 .any (Rows.catalogForgetsSpec.pre6 enc Try.prog Try.f4 Rows.catalogForgetsRow.domain false) (Rows.catalogForgetsSpec.post enc Try.prog Try.f4 false true false false):=by
 refine returnsInHanded_of_change (C:=Try.checked) own started (by kernel_rfl) Try.func4
  (ChangeSpec.witness6 (enc:=enc) (C:=Try.checked) false ⟨#[],#[.slice none 0 0],[]⟩ 8 (by kernel_rfl) (by kernel_rfl) (by kernel_rfl) (by kernel_rfl)) ?_
 intro W base args ds gs before hval hW _ _
 exact law_contract (Rs:=[rOs]) (tb:=4) ⟨_,_,Try.func4,rfl,rfl⟩ rfl lay2 (by kernel_rfl) (by kernel_rfl)
  (fun H ds h=>by
    match ds,h with
    | [d1],_=>exact ⟨rfl,rfl,rfl⟩)
  (call2 law2_ok) hval hW
theorem forgets_said:Rows.CatalogForgetsSaid :=
 OpenClaim.holds_of_wide 4 Try.f4 rfl rfl rfl rfl rfl rfl rfl ⟨rfl,rfl,rfl,rfl,rfl⟩ rfl rfl rfl rfl rfl (by kernel_rfl) Try.func4 (by kernel_rfl)
  (of_decide_eq_true (by kernel_rfl)) (by unfold Func.isWrapper; first|(rw [if_pos (by decide +kernel)]; kernel_rfl)|(rw [if_neg (by decide +kernel)]; exact ⟨rfl,rfl⟩))
  (fun os started H enc _=>forgets_lifted os started H enc)
end Go.Proofs.Ytgoleoihpgmcbaa
