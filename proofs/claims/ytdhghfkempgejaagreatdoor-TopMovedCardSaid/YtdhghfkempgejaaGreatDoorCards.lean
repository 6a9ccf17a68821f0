/-
  DERIVED. GIVEN WITH THE SEED: THE CARDS: each row of YtdhghfkempgejaaGreatDoorRows.lean that lists a variable, with what it lists TIED to the program's text (the seventh form; the later family's looks); each row that meets fmt, with fmt's text TOLD by the authors' own Lean function (tested against real Go, not proved from fmt's source: count such statements apart). THE CARD IS WHAT COUNTS. Prove the row's statement (the work); the ties are given (YtdhghfkempgejaaGreatDoorTie.lean); close each card by the builder's one call (the guide's Derived/Test/ToyasCard.lean, 'card_holds'). Laid BY PROGRAM, IN A SANDBOX (cutbox-door.mjs). By AI agents, Wed Nov 11 2026. No macro, syntax, notation, axiom, sorry.
-/
import Derived.Test.YtdhghfkempgejaaGreatDoorRows
import GoSem.ClaimSeven
namespace Go.Proofs.YtdhghfkempgejaaGreatDoor
namespace Rows

/-- THE TIED CARD OF 'spadilletop.TopMoved'. -/
def topMovedCard : Claim7 := { stood := { row := topMovedRow, standIns := [], harness := (true, "85c0c9a8998ec201d2a7eea80a2e79791bd9644526ececa18ab8ed4e507888e4"), looks := false }, kinds := [], alts := [], laidByText := true, laidKinds := [.data, .data], laidTests := true, laidLooks := .later }
def TopMovedCardSaid : Prop := Claim7.holds Tryz.pinned (.plain (OpenSpec.ofChange topMovedSpec)) topMovedCard

/-- THE TIED CARD OF 'spadilletop.TopFewRows'. -/
def topFewRowsCard : Claim7 := { stood := { row := topFewRowsRow, standIns := [], harness := (true, "85c0c9a8998ec201d2a7eea80a2e79791bd9644526ececa18ab8ed4e507888e4"), looks := false }, kinds := [], alts := [], laidByText := true, laidKinds := [.data, .data], laidTests := true, laidLooks := .later }
def TopFewRowsCardSaid : Prop := Claim7.holds Tryz.pinned (.plain (OpenSpec.ofChange topFewRowsSpec)) topFewRowsCard

/-- THE SECOND FORM's CARD OF 'spadilletop.TopMoved'. -/
def topMovedUptoCard : Claim7 := { stood := { row := topMovedUptoRow, standIns := [], harness := (true, "85c0c9a8998ec201d2a7eea80a2e79791bd9644526ececa18ab8ed4e507888e4"), looks := false }, kinds := [], alts := [], laidByText := true, laidKinds := [.data, .data], laidTests := true, laidLooks := .later }
def TopMovedUptoCardSaid : Prop := Claim7.holds Tryz.pinned (.plain (OpenSpec.upto topMovedSpec)) topMovedUptoCard

/-- THE SECOND FORM's CARD OF 'spadilletop.TopFewRows'. -/
def topFewRowsUptoCard : Claim7 := { stood := { row := topFewRowsUptoRow, standIns := [], harness := (true, "85c0c9a8998ec201d2a7eea80a2e79791bd9644526ececa18ab8ed4e507888e4"), looks := false }, kinds := [], alts := [], laidByText := true, laidKinds := [.data, .data], laidTests := true, laidLooks := .later }
def TopFewRowsUptoCardSaid : Prop := Claim7.holds Tryz.pinned (.plain (OpenSpec.upto topFewRowsSpec)) topFewRowsUptoCard
end Rows
end Go.Proofs.YtdhghfkempgejaaGreatDoor
