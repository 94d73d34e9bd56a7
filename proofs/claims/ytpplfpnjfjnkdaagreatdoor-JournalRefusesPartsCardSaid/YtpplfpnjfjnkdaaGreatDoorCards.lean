/-
  DERIVED. GIVEN WITH THE SEED: THE CARDS: each row of YtpplfpnjfjnkdaaGreatDoorRows.lean that lists a variable, with what it lists TIED to the program's text (the seventh form; the later family's looks); each row that meets fmt, with fmt's text TOLD by the authors' own Lean function (tested against real Go, not proved from fmt's source: count such statements apart). THE CARD IS WHAT COUNTS. Prove the row's statement (the work); the ties are given (YtpplfpnjfjnkdaaGreatDoorTie.lean); close each card by the builder's one call (the guide's Derived/Test/ToyasCard.lean, 'card_holds'). Laid BY PROGRAM, IN A SANDBOX (cutbox-door.mjs). By AI agents, Wed Nov 11 2026. No macro, syntax, notation, axiom, sorry.
-/
import Derived.Test.YtpplfpnjfjnkdaaGreatDoorRows
import GoSem.ClaimSeven
namespace Go.Proofs.YtpplfpnjfjnkdaaGreatDoor
namespace Rows

/-- THE TIED CARD OF 'quietuslaw23.JournalRefusesParts'. -/
def journalRefusesPartsCard : Claim7 := { stood := { row := journalRefusesPartsRow, standIns := [], harness := (true, "9268b4647f35c06f8f74ca96320234ccb3e84f121b9a71b5043317224cd9ad43"), looks := false }, kinds := [], alts := [], laidByText := true, laidKinds := [.data, .data], laidTests := true, laidLooks := .later }
def JournalRefusesPartsCardSaid : Prop := Claim7.holds Tryz.pinned (.plain (OpenSpec.ofChange journalRefusesPartsSpec)) journalRefusesPartsCard

/-- THE TIED CARD OF 'quietuslaw23.JournalSurvivesOneCopy'. -/
def journalSurvivesOneCopyCard : Claim7 := { stood := { row := journalSurvivesOneCopyRow, standIns := [], harness := (true, "9268b4647f35c06f8f74ca96320234ccb3e84f121b9a71b5043317224cd9ad43"), looks := false }, kinds := [], alts := [], laidByText := true, laidKinds := [.data, .data], laidTests := true, laidLooks := .later }
def JournalSurvivesOneCopyCardSaid : Prop := Claim7.holds Tryz.pinned (.plain (OpenSpec.ofChange journalSurvivesOneCopySpec)) journalSurvivesOneCopyCard

/-- THE TIED CARD OF 'quietuslaw23.JournalPlaysAsSpecified'. -/
def journalPlaysAsSpecifiedCard : Claim7 := { stood := { row := journalPlaysAsSpecifiedRow, standIns := [], harness := (true, "9268b4647f35c06f8f74ca96320234ccb3e84f121b9a71b5043317224cd9ad43"), looks := false }, kinds := [], alts := [], laidByText := true, laidKinds := [.data, .data], laidTests := true, laidLooks := .later }
def JournalPlaysAsSpecifiedCardSaid : Prop := Claim7.holds Tryz.pinned (.plain (OpenSpec.ofChange journalPlaysAsSpecifiedSpec)) journalPlaysAsSpecifiedCard

/-- THE SECOND FORM's CARD OF 'quietuslaw23.JournalRefusesParts'. -/
def journalRefusesPartsUptoCard : Claim7 := { stood := { row := journalRefusesPartsUptoRow, standIns := [], harness := (true, "9268b4647f35c06f8f74ca96320234ccb3e84f121b9a71b5043317224cd9ad43"), looks := false }, kinds := [], alts := [], laidByText := true, laidKinds := [.data, .data], laidTests := true, laidLooks := .later }
def JournalRefusesPartsUptoCardSaid : Prop := Claim7.holds Tryz.pinned (.plain (OpenSpec.upto journalRefusesPartsSpec)) journalRefusesPartsUptoCard

/-- THE SECOND FORM's CARD OF 'quietuslaw23.JournalSurvivesOneCopy'. -/
def journalSurvivesOneCopyUptoCard : Claim7 := { stood := { row := journalSurvivesOneCopyUptoRow, standIns := [], harness := (true, "9268b4647f35c06f8f74ca96320234ccb3e84f121b9a71b5043317224cd9ad43"), looks := false }, kinds := [], alts := [], laidByText := true, laidKinds := [.data, .data], laidTests := true, laidLooks := .later }
def JournalSurvivesOneCopyUptoCardSaid : Prop := Claim7.holds Tryz.pinned (.plain (OpenSpec.upto journalSurvivesOneCopySpec)) journalSurvivesOneCopyUptoCard

/-- THE SECOND FORM's CARD OF 'quietuslaw23.JournalPlaysAsSpecified'. -/
def journalPlaysAsSpecifiedUptoCard : Claim7 := { stood := { row := journalPlaysAsSpecifiedUptoRow, standIns := [], harness := (true, "9268b4647f35c06f8f74ca96320234ccb3e84f121b9a71b5043317224cd9ad43"), looks := false }, kinds := [], alts := [], laidByText := true, laidKinds := [.data, .data], laidTests := true, laidLooks := .later }
def JournalPlaysAsSpecifiedUptoCardSaid : Prop := Claim7.holds Tryz.pinned (.plain (OpenSpec.upto journalPlaysAsSpecifiedSpec)) journalPlaysAsSpecifiedUptoCard
end Rows
end Go.Proofs.YtpplfpnjfjnkdaaGreatDoor
