/-
 Layer 39 (catalog): what the arguments of the statements read as; the statement CatalogDoesAsSpecified.
 Conditions: none; every input.
-/
import Derived.Test.YtgoleoihpgmcbaaF39v
import Derived.Test.YtgoleoihpgmcbaaEL1
import Derived.JoinedOf
import Derived.Test.YtgoleoihpgmcbaaRows
namespace Go.Proofs.Ytgoleoihpgmcbaa
open Go Go.E2 C39
open Go.ChangeShapes Go.WideShapes Go.RowKit
abbrev rI (k:IntKind):D→Prop:=fun d=>∃ n,(Lit.int k n).wf=true∧d=.int k n
abbrev rS:D→Prop:=fun d=>∃ s:List UInt8,s.length≤maxLen∧d=.str s
abbrev rOs:D→Prop:=fun d=>∃ l:List Co,d=.list (l.map eO)
theorem rd3:Reads Try.prog 3 false (rI .i64):=reads_int (by kernel_rfl)
theorem rv3:ReadsV Try.prog 3 (rI .i64):=readsV_int (by kernel_rfl)
theorem rd9:Reads Try.prog 9 false rS:=reads_string (by kernel_rfl)
theorem rv9:ReadsV Try.prog 9 rS:=readsV_string (by kernel_rfl)
set_option maxRecDepth 100000 in
theorem rd27:Reads Try.prog 27 false (fun d=>∃ c:Co,True∧d=eO c) :=
 reads_mono (reads_struct (Rs:=[rI .i64,rI .i64,rI .i64,rI .i64,rI .i64,rI .i64,rS]) (fs:=fieldsOf Try.prog 27) (by kernel_rfl) (lay_of (l:=[(0,3),(1,3),(2,3),(3,3),(4,3),(5,3),(6,9)]) (by kernel_rfl)
  ⟨rfl,rd3,by kernel_rfl,rd3,by kernel_rfl,rd3,by kernel_rfl,rd3,by kernel_rfl,rd3,by kernel_rfl,rd3,by kernel_rfl,rd9,trivial⟩) (by kernel_rfl)) (by
  rintro d ⟨parts,hp,rfl⟩
  obtain ⟨_,_,rfl,⟨a,_,rfl⟩,hp1⟩:=parts_cons hp
  obtain ⟨_,_,rfl,⟨b,_,rfl⟩,hp2⟩:=parts_cons hp1
  obtain ⟨_,_,rfl,⟨c,_,rfl⟩,hp3⟩:=parts_cons hp2
  obtain ⟨_,_,rfl,⟨e,_,rfl⟩,hp4⟩:=parts_cons hp3
  obtain ⟨_,_,rfl,⟨f,_,rfl⟩,hp5⟩:=parts_cons hp4
  obtain ⟨_,_,rfl,⟨g,_,rfl⟩,hp6⟩:=parts_cons hp5
  obtain ⟨_,_,rfl,⟨s,_,rfl⟩,hp7⟩:=parts_cons hp6
  obtain rfl:=parts_nil hp7
  exact ⟨⟨a,b,c,e,f,g,s⟩,trivial,rfl⟩)
theorem own:ownKnob Try.prog.godebug=none:=by kernel_rfl
end Go.Proofs.Ytgoleoihpgmcbaa
