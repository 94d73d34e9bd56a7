/-
 Layer 39 (catalog): what the arguments of the statements read as; the statement CatalogDoesAsSpecified.
 Conditions: none; every input.
-/
import Derived.Test.YtgoleoihpgmcbaaF39v
import Derived.Test.YtgoleoihpgmcbaaEL1
import Derived.JoinedOf
import Derived.Test.YtgoleoihpgmcbaaRows
namespace Go.Proofs.Ytgoleoihpgmcbaa
open Go Go.E2 C39
open Go.ChangeShapes Go.WideShapes Go.RowKit
abbrev rI (k:IntKind):D→Prop:=fun d=>∃ n,(Lit.int k n).wf=true∧d=.int k n
abbrev rS:D→Prop:=fun d=>∃ s:List UInt8,s.length≤maxLen∧d=.str s
abbrev rC:D→Prop:=fun d=>∃ c:Ct,d=eC c
abbrev rO:D→Prop:=fun d=>∃ c:Co,d=eO c
theorem rd3:Reads Try.prog 3 false (rI .i64):=reads_int (by kernel_rfl)
theorem rv3:ReadsV Try.prog 3 (rI .i64):=readsV_int (by kernel_rfl)
theorem rd9:Reads Try.prog 9 false rS:=reads_string (by kernel_rfl)
theorem rv9:ReadsV Try.prog 9 rS:=readsV_string (by kernel_rfl)
set_option maxRecDepth 100000 in
theorem rd37:Reads Try.prog 37 false (fun d=>∃ c:En,True∧d=eE c) :=
 reads_mono (reads_struct (Rs:=[rS,rI .i64,rI .i64,rI .i64]) (fs:=fieldsOf Try.prog 37) (by kernel_rfl) (lay_of (l:=[(0,9),(1,3),(2,3),(3,3)]) (by kernel_rfl)
  ⟨rfl,rd9,by kernel_rfl,rd3,by kernel_rfl,rd3,by kernel_rfl,rd3,trivial⟩) (by kernel_rfl)) (by
  rintro d ⟨parts,hp,rfl⟩
  obtain ⟨_,_,rfl,⟨a,_,rfl⟩,hp1⟩:=parts_cons hp
  obtain ⟨_,_,rfl,⟨b,_,rfl⟩,hp2⟩:=parts_cons hp1
  obtain ⟨_,_,rfl,⟨c,_,rfl⟩,hp3⟩:=parts_cons hp2
  obtain ⟨_,_,rfl,⟨e,_,rfl⟩,hp4⟩:=parts_cons hp3
  obtain rfl:=parts_nil hp4
  exact ⟨⟨a,b,c,e⟩,trivial,rfl⟩)
theorem rd22 (s:Bool):Reads Try.prog 22 s (fun d=>∃ l:List En,d=.list (l.map eE)) :=
 reads_mono (reads_slice (e:=37) (sz:=4) (by kernel_rfl) (by kernel_rfl) (by decide) rd37) (by
  rintro d ⟨es,h,_,_,rfl⟩
  obtain ⟨l,_,rfl⟩:=exists_map h
  exact ⟨l,rfl⟩)
set_option maxRecDepth 100000 in
theorem rd67:Reads Try.prog 67 false (fun d=>∃ c:Sn,True∧d=eS c) :=
 reads_mono (reads_struct (Rs:=[rI .i64,fun d=>∃ l:List En,d=.list (l.map eE)]) (fs:=fieldsOf Try.prog 67) (by kernel_rfl) (lay_of (l:=[(0,3),(1,22)]) (by kernel_rfl)
  ⟨rfl,rd3,by kernel_rfl,rd22 false,trivial⟩) (by kernel_rfl)) (by
  rintro d ⟨parts,hp,rfl⟩
  obtain ⟨_,_,rfl,⟨a,_,rfl⟩,hp1⟩:=parts_cons hp
  obtain ⟨_,_,rfl,⟨c,rfl⟩,hp2⟩:=parts_cons hp1
  obtain rfl:=parts_nil hp2
  exact ⟨⟨a,c⟩,trivial,rfl⟩)
theorem rd23:Reads Try.prog 23 true (fun d=>∃ l:List Sn,d=.list (l.map eS)) :=
 reads_mono (reads_slice (e:=67) (sz:=2) (by kernel_rfl) (by kernel_rfl) (by decide) rd67) (by
  rintro d ⟨es,h,_,_,rfl⟩
  obtain ⟨l,_,rfl⟩:=exists_map h
  exact ⟨l,rfl⟩)
set_option maxRecDepth 100000 in
theorem rv25:ReadsV Try.prog 25 rC :=
 readsV_mono (readsV_struct (fs:=fieldsOf Try.prog 25) (by kernel_rfl) (reads_struct (s:=true) (Rs:=[rI .i64,fun d=>∃ l:List En,d=.list (l.map eE),fun d=>∃ l:List Sn,d=.list (l.map eS)]) (fs:=fieldsOf Try.prog 25) (by kernel_rfl) (lay_of (l:=[(0,3),(1,22),(2,23)]) (by kernel_rfl)
  ⟨rfl,reads_up rd3,by kernel_rfl,rd22 true,by kernel_rfl,rd23,trivial⟩) (by kernel_rfl)) (fun d ⟨p,_,e⟩=>⟨_,e⟩)) (by
  rintro d ⟨parts,hp,rfl⟩
  obtain ⟨_,_,rfl,⟨a,_,rfl⟩,hp1⟩:=parts_cons hp
  obtain ⟨_,_,rfl,⟨b,rfl⟩,hp2⟩:=parts_cons hp1
  obtain ⟨_,_,rfl,⟨c,rfl⟩,hp3⟩:=parts_cons hp2
  obtain rfl:=parts_nil hp3
  exact ⟨⟨a,b,c⟩,rfl⟩)
set_option maxRecDepth 100000 in
theorem rd27:Reads Try.prog 27 false (fun d=>∃ c:Co,True∧d=eO c) :=
 reads_mono (reads_struct (Rs:=[rI .i64,rI .i64,rI .i64,rI .i64,rI .i64,rI .i64,rS]) (fs:=fieldsOf Try.prog 27) (by kernel_rfl) (lay_of (l:=[(0,3),(1,3),(2,3),(3,3),(4,3),(5,3),(6,9)]) (by kernel_rfl)
  ⟨rfl,rd3,by kernel_rfl,rd3,by kernel_rfl,rd3,by kernel_rfl,rd3,by kernel_rfl,rd3,by kernel_rfl,rd3,by kernel_rfl,rd9,trivial⟩) (by kernel_rfl)) (by
  rintro d ⟨parts,hp,rfl⟩
  obtain ⟨_,_,rfl,⟨a,_,rfl⟩,hp1⟩:=parts_cons hp
  obtain ⟨_,_,rfl,⟨b,_,rfl⟩,hp2⟩:=parts_cons hp1
  obtain ⟨_,_,rfl,⟨c,_,rfl⟩,hp3⟩:=parts_cons hp2
  obtain ⟨_,_,rfl,⟨e,_,rfl⟩,hp4⟩:=parts_cons hp3
  obtain ⟨_,_,rfl,⟨f,_,rfl⟩,hp5⟩:=parts_cons hp4
  obtain ⟨_,_,rfl,⟨g,_,rfl⟩,hp6⟩:=parts_cons hp5
  obtain ⟨_,_,rfl,⟨s,_,rfl⟩,hp7⟩:=parts_cons hp6
  obtain rfl:=parts_nil hp7
  exact ⟨⟨a,b,c,e,f,g,s⟩,trivial,rfl⟩)
theorem rv27:ReadsV Try.prog 27 rO:=readsV_struct (fs:=fieldsOf Try.prog 27) (by kernel_rfl) (reads_mono rd27 fun d ⟨c,_,e⟩=>⟨c,e⟩) (fun d ⟨o,e⟩=>⟨_,e⟩)
theorem own:ownKnob Try.prog.godebug=none:=by kernel_rfl
theorem lay1:LayV Try.prog [25,27,9,3] [rC,rO,rS,rI .i64]:=⟨rv25,rv27,rv9,rv3,trivial⟩
theorem call1 {f:FuncId} (h:∀ (c:Ct) (o:Co) (s:Str) (n:Int),CallP Try.prog f [eC c,eO o,.str s,.int .i64 n] (·=.d (.bool true))):∀ xs,Parts [rC,rO,rS,rI .i64] xs→CallP Try.prog f xs (·=.d (.bool true)):=by
 intro xs hp
 obtain ⟨_,_,rfl,⟨c,rfl⟩,hp1⟩:=parts_cons hp
 obtain ⟨_,_,rfl,⟨o,rfl⟩,hp2⟩:=parts_cons hp1
 obtain ⟨_,_,rfl,⟨s,_,rfl⟩,hp3⟩:=parts_cons hp2
 obtain ⟨_,_,rfl,⟨n,_,rfl⟩,hp4⟩:=parts_cons hp3
 obtain rfl:=parts_nil hp4
 exact h c o s n
set_option maxRecDepth 100000 in
theorem does_lifted (os:Os) (started:os.Started) (H:Type) (enc:TypeId × Value→H) :
 ReturnsInHanded {} Try.checked os 3 .any (Rows.catalogDoesAsSpecifiedSpec.pre6 enc Try.prog Try.f3 Rows.catalogDoesAsSpecifiedRow.domain false) (Rows.catalogDoesAsSpecifiedSpec.post enc Try.prog Try.f3 false true false false):=by
 refine returnsInHanded_of_change (C:=Try.checked) own started (by kernel_rfl) Try.func3
  (ChangeSpec.witness6 (enc:=enc) (C:=Try.checked) false ⟨#[],#[.agg #[.int .i64 0,.slice none 0 0,.slice none 0 0],.agg #[.int .i64 0,.int .i64 0,.int .i64 0,.int .i64 0,.int .i64 0,.int .i64 0,.string ⟨#[]⟩],.string ⟨#[]⟩,.int .i64 0],[]⟩ 8 (by kernel_rfl) (by kernel_rfl) (by kernel_rfl) (by kernel_rfl)) ?_
 intro W base args ds gs before hval hW _ _
 exact law_contract (Rs:=[rC,rO,rS,rI .i64]) (tb:=4) ⟨_,_,Try.func3,rfl,rfl⟩ rfl lay1 (by kernel_rfl) (by kernel_rfl)
  (fun H ds h=>by
    match ds,h with
    | [d1,d2,d3,d4],_=>exact ⟨rfl,rfl,rfl⟩)
  (call1 law1_ok) hval hW
theorem does_said:Rows.CatalogDoesAsSpecifiedSaid :=
 OpenClaim.holds_of_wide 3 Try.f3 rfl rfl rfl rfl rfl rfl rfl ⟨rfl,rfl,rfl,rfl,rfl⟩ rfl rfl rfl rfl rfl (by kernel_rfl) Try.func3 (by kernel_rfl)
  (of_decide_eq_true (by kernel_rfl)) (by unfold Func.isWrapper; first|(rw [if_pos (by decide +kernel)]; kernel_rfl)|(rw [if_neg (by decide +kernel)]; exact ⟨rfl,rfl⟩))
  (fun os started H enc _=>does_lifted os started H enc)
end Go.Proofs.Ytgoleoihpgmcbaa
