/-
  DERIVED. GIVEN WITH THE SEED: THE CARDS: each row of YtclmdhceceacoaaGreatDoorRows.lean that lists a variable, with what it lists TIED to the program's text (the seventh form; the later family's looks); each row that meets fmt, with fmt's text TOLD by the authors' own Lean function (tested against real Go, not proved from fmt's source: count such statements apart). THE CARD IS WHAT COUNTS. Prove the row's statement (the work); the ties are given (YtclmdhceceacoaaGreatDoorTie.lean); close each card by the builder's one call (the guide's Derived/Test/ToyasCard.lean, 'card_holds'). Laid BY PROGRAM, IN A SANDBOX (cutbox-door.mjs). By AI agents, Wed Nov 11 2026. No macro, syntax, notation, axiom, sorry.
-/
import Derived.Test.YtclmdhceceacoaaGreatDoorRows
import GoSem.ClaimSeven
namespace Go.Proofs.YtclmdhceceacoaaGreatDoor
namespace Rows

/-- THE TIED CARD OF 'quietuslaw44.DrawDrawsAsSpecified'. -/
def drawDrawsAsSpecifiedCard : Claim7 := { stood := { row := drawDrawsAsSpecifiedRow, standIns := [], harness := (true, "bf78bc7ea1c7be25ca214cd00b36ec54474d6b7310f07f35b0c83f5a0b19ce05"), looks := false }, kinds := [], alts := [], laidByText := true, laidKinds := [.data, .data], laidTests := true, laidLooks := .later }
def DrawDrawsAsSpecifiedCardSaid : Prop := Claim7.holds Tryz.pinned (.plain (OpenSpec.ofChange drawDrawsAsSpecifiedSpec)) drawDrawsAsSpecifiedCard

/-- THE TIED CARD OF 'quietuslaw44.DrawIsAnswered'. -/
def drawIsAnsweredCard : Claim7 := { stood := { row := drawIsAnsweredRow, standIns := [], harness := (true, "bf78bc7ea1c7be25ca214cd00b36ec54474d6b7310f07f35b0c83f5a0b19ce05"), looks := false }, kinds := [], alts := [], laidByText := true, laidKinds := [.data, .data], laidTests := true, laidLooks := .later }
def DrawIsAnsweredCardSaid : Prop := Claim7.holds Tryz.pinned (.plain (OpenSpec.ofChange drawIsAnsweredSpec)) drawIsAnsweredCard

/-- THE SECOND FORM's CARD OF 'quietuslaw44.DrawDrawsAsSpecified'. -/
def drawDrawsAsSpecifiedUptoCard : Claim7 := { stood := { row := drawDrawsAsSpecifiedUptoRow, standIns := [], harness := (true, "bf78bc7ea1c7be25ca214cd00b36ec54474d6b7310f07f35b0c83f5a0b19ce05"), looks := false }, kinds := [], alts := [], laidByText := true, laidKinds := [.data, .data], laidTests := true, laidLooks := .later }
def DrawDrawsAsSpecifiedUptoCardSaid : Prop := Claim7.holds Tryz.pinned (.plain (OpenSpec.upto drawDrawsAsSpecifiedSpec)) drawDrawsAsSpecifiedUptoCard

/-- THE SECOND FORM's CARD OF 'quietuslaw44.DrawIsAnswered'. -/
def drawIsAnsweredUptoCard : Claim7 := { stood := { row := drawIsAnsweredUptoRow, standIns := [], harness := (true, "bf78bc7ea1c7be25ca214cd00b36ec54474d6b7310f07f35b0c83f5a0b19ce05"), looks := false }, kinds := [], alts := [], laidByText := true, laidKinds := [.data, .data], laidTests := true, laidLooks := .later }
def DrawIsAnsweredUptoCardSaid : Prop := Claim7.holds Tryz.pinned (.plain (OpenSpec.upto drawIsAnsweredSpec)) drawIsAnsweredUptoCard
end Rows
end Go.Proofs.YtclmdhceceacoaaGreatDoor
