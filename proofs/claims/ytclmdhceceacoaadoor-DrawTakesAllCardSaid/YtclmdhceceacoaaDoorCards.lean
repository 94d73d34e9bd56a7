/-
  DERIVED. GIVEN WITH THE SEED: THE CARDS: each row of YtclmdhceceacoaaDoorRows.lean that lists a variable, with what it lists TIED to the program's text (the seventh form; the later family's looks); each row that meets fmt, with fmt's text TOLD by the authors' own Lean function (tested against real Go, not proved from fmt's source: count such statements apart). THE CARD IS WHAT COUNTS. Prove the row's statement (the work); the ties are given (YtclmdhceceacoaaDoorTie.lean); close each card by the builder's one call (the guide's Derived/Test/ToyasCard.lean, 'card_holds'). Laid BY PROGRAM, IN A SANDBOX (cutbox-door.mjs). By AI agents, Wed Nov 11 2026. No macro, syntax, notation, axiom, sorry.
-/
import Derived.Test.YtclmdhceceacoaaDoorRows
import GoSem.ClaimSeven
namespace Go.Proofs.YtclmdhceceacoaaDoor
namespace Rows

/-- THE TIED CARD OF 'quietuslaw44.DrawDealsAsSpecified'. -/
def drawDealsAsSpecifiedCard : Claim7 := { stood := { row := drawDealsAsSpecifiedRow, standIns := [], harness := (true, "51df7359ac9fde36642b10707ec93e8f9878edf4909f07d899c2e1587a5f0503"), looks := false }, kinds := [], alts := [], laidByText := true, laidKinds := [.data, .data], laidTests := true, laidLooks := .later }
def DrawDealsAsSpecifiedCardSaid : Prop := Claim7.holds Tryd.pinned (.plain (OpenSpec.ofChange drawDealsAsSpecifiedSpec)) drawDealsAsSpecifiedCard

/-- THE TIED CARD OF 'quietuslaw44.DrawRecoversFromAny'. -/
def drawRecoversFromAnyCard : Claim7 := { stood := { row := drawRecoversFromAnyRow, standIns := [], harness := (true, "51df7359ac9fde36642b10707ec93e8f9878edf4909f07d899c2e1587a5f0503"), looks := false }, kinds := [], alts := [], laidByText := true, laidKinds := [.data, .data], laidTests := true, laidLooks := .later }
def DrawRecoversFromAnyCardSaid : Prop := Claim7.holds Tryd.pinned (.plain (OpenSpec.ofChange drawRecoversFromAnySpec)) drawRecoversFromAnyCard

/-- THE TIED CARD OF 'quietuslaw44.DrawDoesNotDependOnWhoVanishes'. -/
def drawDoesNotDependOnWhoVanishesCard : Claim7 := { stood := { row := drawDoesNotDependOnWhoVanishesRow, standIns := [], harness := (true, "51df7359ac9fde36642b10707ec93e8f9878edf4909f07d899c2e1587a5f0503"), looks := false }, kinds := [], alts := [], laidByText := true, laidKinds := [.data, .data], laidTests := true, laidLooks := .later }
def DrawDoesNotDependOnWhoVanishesCardSaid : Prop := Claim7.holds Tryd.pinned (.plain (OpenSpec.ofChange drawDoesNotDependOnWhoVanishesSpec)) drawDoesNotDependOnWhoVanishesCard

/-- THE TIED CARD OF 'quietuslaw44.DrawTakesAll'. -/
def drawTakesAllCard : Claim7 := { stood := { row := drawTakesAllRow, standIns := [], harness := (true, "51df7359ac9fde36642b10707ec93e8f9878edf4909f07d899c2e1587a5f0503"), looks := false }, kinds := [], alts := [], laidByText := true, laidKinds := [.data, .data], laidTests := true, laidLooks := .later }
def DrawTakesAllCardSaid : Prop := Claim7.holds Tryd.pinned (.plain (OpenSpec.ofChange drawTakesAllSpec)) drawTakesAllCard

/-- THE TIED CARD OF 'quietuslaw44.DrawChallengesAsSpecified'. -/
def drawChallengesAsSpecifiedCard : Claim7 := { stood := { row := drawChallengesAsSpecifiedRow, standIns := [], harness := (true, "51df7359ac9fde36642b10707ec93e8f9878edf4909f07d899c2e1587a5f0503"), looks := false }, kinds := [], alts := [], laidByText := true, laidKinds := [.data, .data], laidTests := true, laidLooks := .later }
def DrawChallengesAsSpecifiedCardSaid : Prop := Claim7.holds Tryd.pinned (.plain (OpenSpec.ofChange drawChallengesAsSpecifiedSpec)) drawChallengesAsSpecifiedCard

/-- THE TIED CARD OF 'quietuslaw44.DrawChallengesMore'. -/
def drawChallengesMoreCard : Claim7 := { stood := { row := drawChallengesMoreRow, standIns := [], harness := (true, "51df7359ac9fde36642b10707ec93e8f9878edf4909f07d899c2e1587a5f0503"), looks := false }, kinds := [], alts := [], laidByText := true, laidKinds := [.data, .data], laidTests := true, laidLooks := .later }
def DrawChallengesMoreCardSaid : Prop := Claim7.holds Tryd.pinned (.plain (OpenSpec.ofChange drawChallengesMoreSpec)) drawChallengesMoreCard

/-- THE SECOND FORM's CARD OF 'quietuslaw44.DrawDealsAsSpecified'. -/
def drawDealsAsSpecifiedUptoCard : Claim7 := { stood := { row := drawDealsAsSpecifiedUptoRow, standIns := [], harness := (true, "51df7359ac9fde36642b10707ec93e8f9878edf4909f07d899c2e1587a5f0503"), looks := false }, kinds := [], alts := [], laidByText := true, laidKinds := [.data, .data], laidTests := true, laidLooks := .later }
def DrawDealsAsSpecifiedUptoCardSaid : Prop := Claim7.holds Tryd.pinned (.plain (OpenSpec.upto drawDealsAsSpecifiedSpec)) drawDealsAsSpecifiedUptoCard

/-- THE SECOND FORM's CARD OF 'quietuslaw44.DrawRecoversFromAny'. -/
def drawRecoversFromAnyUptoCard : Claim7 := { stood := { row := drawRecoversFromAnyUptoRow, standIns := [], harness := (true, "51df7359ac9fde36642b10707ec93e8f9878edf4909f07d899c2e1587a5f0503"), looks := false }, kinds := [], alts := [], laidByText := true, laidKinds := [.data, .data], laidTests := true, laidLooks := .later }
def DrawRecoversFromAnyUptoCardSaid : Prop := Claim7.holds Tryd.pinned (.plain (OpenSpec.upto drawRecoversFromAnySpec)) drawRecoversFromAnyUptoCard

/-- THE SECOND FORM's CARD OF 'quietuslaw44.DrawDoesNotDependOnWhoVanishes'. -/
def drawDoesNotDependOnWhoVanishesUptoCard : Claim7 := { stood := { row := drawDoesNotDependOnWhoVanishesUptoRow, standIns := [], harness := (true, "51df7359ac9fde36642b10707ec93e8f9878edf4909f07d899c2e1587a5f0503"), looks := false }, kinds := [], alts := [], laidByText := true, laidKinds := [.data, .data], laidTests := true, laidLooks := .later }
def DrawDoesNotDependOnWhoVanishesUptoCardSaid : Prop := Claim7.holds Tryd.pinned (.plain (OpenSpec.upto drawDoesNotDependOnWhoVanishesSpec)) drawDoesNotDependOnWhoVanishesUptoCard

/-- THE SECOND FORM's CARD OF 'quietuslaw44.DrawTakesAll'. -/
def drawTakesAllUptoCard : Claim7 := { stood := { row := drawTakesAllUptoRow, standIns := [], harness := (true, "51df7359ac9fde36642b10707ec93e8f9878edf4909f07d899c2e1587a5f0503"), looks := false }, kinds := [], alts := [], laidByText := true, laidKinds := [.data, .data], laidTests := true, laidLooks := .later }
def DrawTakesAllUptoCardSaid : Prop := Claim7.holds Tryd.pinned (.plain (OpenSpec.upto drawTakesAllSpec)) drawTakesAllUptoCard

/-- THE SECOND FORM's CARD OF 'quietuslaw44.DrawChallengesAsSpecified'. -/
def drawChallengesAsSpecifiedUptoCard : Claim7 := { stood := { row := drawChallengesAsSpecifiedUptoRow, standIns := [], harness := (true, "51df7359ac9fde36642b10707ec93e8f9878edf4909f07d899c2e1587a5f0503"), looks := false }, kinds := [], alts := [], laidByText := true, laidKinds := [.data, .data], laidTests := true, laidLooks := .later }
def DrawChallengesAsSpecifiedUptoCardSaid : Prop := Claim7.holds Tryd.pinned (.plain (OpenSpec.upto drawChallengesAsSpecifiedSpec)) drawChallengesAsSpecifiedUptoCard

/-- THE SECOND FORM's CARD OF 'quietuslaw44.DrawChallengesMore'. -/
def drawChallengesMoreUptoCard : Claim7 := { stood := { row := drawChallengesMoreUptoRow, standIns := [], harness := (true, "51df7359ac9fde36642b10707ec93e8f9878edf4909f07d899c2e1587a5f0503"), looks := false }, kinds := [], alts := [], laidByText := true, laidKinds := [.data, .data], laidTests := true, laidLooks := .later }
def DrawChallengesMoreUptoCardSaid : Prop := Claim7.holds Tryd.pinned (.plain (OpenSpec.upto drawChallengesMoreSpec)) drawChallengesMoreUptoCard
end Rows
end Go.Proofs.YtclmdhceceacoaaDoor
