/-
 Layer 39 (catalog),continued: the statement CatalogRestores.
 Conditions: none; every input.
-/
import Derived.Test.YtgoleoihpgmcbaaF39y
import Derived.Test.YtgoleoihpgmcbaaF39xa
namespace Go.Proofs.Ytgoleoihpgmcbaa
open Go Go.E2 C39
open Go.ChangeShapes Go.WideShapes Go.RowKit
theorem lay3:LayV Try.prog [50,9,3,9] [rOs,rS,rI .i64,rS]:=⟨rv50,rv9,rv3,rv9,trivial⟩
theorem call3 {f:FuncId} (h:∀ (l:List Co) (s:Str) (n:Int) (t:Str),CallP Try.prog f [.list (l.map eO),.str s,.int .i64 n,.str t] (·=.d (.bool true))):∀ xs,Parts [rOs,rS,rI .i64,rS] xs→CallP Try.prog f xs (·=.d (.bool true)):=by
 intro xs hp
 obtain ⟨_,_,rfl,⟨l,rfl⟩,hp1⟩:=parts_cons hp
 obtain ⟨_,_,rfl,⟨s,_,rfl⟩,hp2⟩:=parts_cons hp1
 obtain ⟨_,_,rfl,⟨n,_,rfl⟩,hp3⟩:=parts_cons hp2
 obtain ⟨_,_,rfl,⟨t,_,rfl⟩,hp4⟩:=parts_cons hp3
 obtain rfl:=parts_nil hp4
 exact h l s n t
set_option maxRecDepth 100000 in
theorem restores_lifted (os:Os) (started:os.Started) (H:Type) (enc:TypeId × Value→H) :
 ReturnsInHanded {} Try.checked os 5 .any (Rows.catalogRestoresSpec.pre6 enc Try.prog Try.f5 Rows.catalogRestoresRow.domain false) (Rows.catalogRestoresSpec.post enc Try.prog Try.f5 false true false false):=by
 refine returnsInHanded_of_change (C:=Try.checked) own started (by kernel_rfl) Try.func5
  (ChangeSpec.witness6 (enc:=enc) (C:=Try.checked) false ⟨#[],#[.slice none 0 0,.string ⟨#[]⟩,.int .i64 0,.string ⟨#[]⟩],[]⟩ 8 (by kernel_rfl) (by kernel_rfl) (by kernel_rfl) (by kernel_rfl)) ?_
 intro W base args ds gs before hval hW _ _
 exact law_contract (Rs:=[rOs,rS,rI .i64,rS]) (tb:=4) ⟨_,_,Try.func5,rfl,rfl⟩ rfl lay3 (by kernel_rfl) (by kernel_rfl)
  (fun H ds h=>by
    match ds,h with
    | [d1,d2,d3,d4],_=>exact ⟨rfl,rfl,rfl⟩)
  (call3 law3_ok) hval hW
theorem restores_said:Rows.CatalogRestoresSaid :=
 OpenClaim.holds_of_wide 5 Try.f5 rfl rfl rfl rfl rfl rfl rfl ⟨rfl,rfl,rfl,rfl,rfl⟩ rfl rfl rfl rfl rfl (by kernel_rfl) Try.func5 (by kernel_rfl)
  (of_decide_eq_true (by kernel_rfl)) (by unfold Func.isWrapper; first|(rw [if_pos (by decide +kernel)]; kernel_rfl)|(rw [if_neg (by decide +kernel)]; exact ⟨rfl,rfl⟩))
  (fun os started H enc _=>restores_lifted os started H enc)
end Go.Proofs.Ytgoleoihpgmcbaa
