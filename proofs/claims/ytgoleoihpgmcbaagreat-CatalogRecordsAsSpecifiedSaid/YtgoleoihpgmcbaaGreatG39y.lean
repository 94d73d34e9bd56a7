/-
 Layer 39 (catalog): the statement CatalogRecordsAsSpecified.
 Conditions: none; every input.
-/
import Derived.Test.YtgoleoihpgmcbaaGreatG39v
import Derived.Test.YtgoleoihpgmcbaaGreatEL1
import Derived.JoinedOf
import Derived.Test.YtgoleoihpgmcbaaGreatRows
namespace Go.Proofs.YtgoleoihpgmcbaaGreat
open Go Go.E2 C39 CW
open Go.ChangeShapes Go.WideShapes Go.RowKit
theorem wf_i64 {n:Int} (h:(Lit.int .i64 n).wf=true):i64 n:=by
 unfold i64
 simpa [Lit.wf,IntKind.min,IntKind.max,IntKind.signed,IntKind.bits] using h
abbrev rI (k:IntKind):D→Prop:=fun d=>∃ n,(Lit.int k n).wf=true∧d=.int k n
abbrev rS:D→Prop:=fun d=>∃ s:List UInt8,s.length≤maxLen∧d=.str s
abbrev rO:D→Prop:=fun d=>∃ c:Co,rightO c∧d=eO c
abbrev rL:D→Prop:=fun d=>∃ l:List (List UInt8),d=.list (l.map .str)
theorem rd3:Reads Tryz.prog 3 false (rI .i64):=reads_int (by kernel_rfl)
theorem rd9:Reads Tryz.prog 9 false rS:=reads_string (by kernel_rfl)
theorem rv9:ReadsV Tryz.prog 9 rS:=readsV_string (by kernel_rfl)
set_option maxRecDepth 100000 in
theorem rd23:Reads Tryz.prog 23 false rO :=
 reads_mono (reads_struct (Rs:=[rI .i64,rI .i64,rI .i64,rI .i64,rI .i64,rI .i64,rS]) (fs:=fieldsOf Tryz.prog 23) (by kernel_rfl) (lay_of (l:=[(0,3),(1,3),(2,3),(3,3),(4,3),(5,3),(6,9)]) (by kernel_rfl)
  ⟨rfl,rd3,by kernel_rfl,rd3,by kernel_rfl,rd3,by kernel_rfl,rd3,by kernel_rfl,rd3,by kernel_rfl,rd3,by kernel_rfl,rd9,trivial⟩) (by kernel_rfl)) (by
  rintro d ⟨parts,hp,rfl⟩
  obtain ⟨_,_,rfl,⟨a,wa,rfl⟩,hp1⟩:=parts_cons hp
  obtain ⟨_,_,rfl,⟨b,wb,rfl⟩,hp2⟩:=parts_cons hp1
  obtain ⟨_,_,rfl,⟨c,wc,rfl⟩,hp3⟩:=parts_cons hp2
  obtain ⟨_,_,rfl,⟨e,we,rfl⟩,hp4⟩:=parts_cons hp3
  obtain ⟨_,_,rfl,⟨f,wf,rfl⟩,hp5⟩:=parts_cons hp4
  obtain ⟨_,_,rfl,⟨g,wg,rfl⟩,hp6⟩:=parts_cons hp5
  obtain ⟨_,_,rfl,⟨s,_,rfl⟩,hp7⟩:=parts_cons hp6
  obtain rfl:=parts_nil hp7
  exact ⟨⟨a,b,c,e,f,g,s⟩,⟨wf_i64 wa,wf_i64 wb,wf_i64 wc,wf_i64 we,wf_i64 wf,wf_i64 wg⟩,rfl⟩)
theorem rv23:ReadsV Tryz.prog 23 rO:=readsV_struct (fs:=fieldsOf Tryz.prog 23) (by kernel_rfl) rd23 (fun d ⟨o,_,e⟩=>⟨_,e⟩)
theorem rv24:ReadsV Tryz.prog 24 rL :=
 readsV_mono (readsV_slice (e:=9) (sz:=1) (by kernel_rfl) (by kernel_rfl) (by decide) rd9) (by
  rintro d ⟨es,h,_,_,rfl⟩
  obtain ⟨l,_,rfl⟩:=exists_map (f:=D.str) (p:=fun _=>True) fun x hx=>by obtain ⟨n,_,e⟩:=h x hx; exact ⟨n,trivial,e⟩
  exact ⟨l,rfl⟩)
theorem own:ownKnob Tryz.prog.godebug=none:=by kernel_rfl
theorem lay4:LayV Tryz.prog [23,9,24] [rO,rS,rL]:=⟨rv23,rv9,rv24,trivial⟩
theorem call4 {f:FuncId} (h:∀ (o:Co) (s:List UInt8) (l:List (List UInt8)),rightO o→CallP Tryz.prog f [eO o,.str s,.list (l.map .str)] (·=.d (.bool true))):∀ xs,Parts [rO,rS,rL] xs→CallP Tryz.prog f xs (·=.d (.bool true)):=by
 intro xs hp
 obtain ⟨_,_,rfl,⟨o,ho,rfl⟩,hp1⟩:=parts_cons hp
 obtain ⟨_,_,rfl,⟨s,_,rfl⟩,hp2⟩:=parts_cons hp1
 obtain ⟨_,_,rfl,⟨l,rfl⟩,hp3⟩:=parts_cons hp2
 obtain rfl:=parts_nil hp3
 exact h o s l ho
set_option maxRecDepth 100000 in
theorem records_lifted (os:Os) (started:os.Started) (H:Type) (enc:TypeId × Value→H) :
 ReturnsInHanded {} Tryz.checked os 3 .any (Rows.catalogRecordsAsSpecifiedSpec.pre6 enc Tryz.prog Tryz.f3 Rows.catalogRecordsAsSpecifiedRow.domain false) (Rows.catalogRecordsAsSpecifiedSpec.post enc Tryz.prog Tryz.f3 false true false false):=by
 refine returnsInHanded_of_change (C:=Tryz.checked) own started (by kernel_rfl) Tryz.func3
  (ChangeSpec.witness6 (enc:=enc) (C:=Tryz.checked) false ⟨#[],#[.agg #[.int .i64 0,.int .i64 0,.int .i64 0,.int .i64 0,.int .i64 0,.int .i64 0,.string ⟨#[]⟩],.string ⟨#[]⟩,.slice none 0 0],[]⟩ 8 (by kernel_rfl) (by kernel_rfl) (by kernel_rfl) (by kernel_rfl)) ?_
 intro W base args ds gs before hval hW _ _
 exact law_contract (Rs:=[rO,rS,rL]) (tb:=4) ⟨_,_,Tryz.func3,rfl,rfl⟩ rfl lay4 (by kernel_rfl) (by kernel_rfl)
  (fun H ds h=>by
    match ds,h with
    | [d1,d2,d3],_=>exact ⟨rfl,rfl,rfl⟩)
  (call4 law4_ok) hval hW
theorem records_said:Rows.CatalogRecordsAsSpecifiedSaid :=
 OpenClaim.holds_of_wide 3 Tryz.f3 rfl rfl rfl rfl rfl rfl rfl ⟨rfl,rfl,rfl,rfl,rfl⟩ rfl rfl rfl rfl rfl (by kernel_rfl) Tryz.func3 (by kernel_rfl)
  (of_decide_eq_true (by kernel_rfl)) (by unfold Func.isWrapper; first|(rw [if_pos (by decide +kernel)]; kernel_rfl)|(rw [if_neg (by decide +kernel)]; exact ⟨rfl,rfl⟩))
  (fun os started H enc _=>records_lifted os started H enc)
end Go.Proofs.YtgoleoihpgmcbaaGreat
