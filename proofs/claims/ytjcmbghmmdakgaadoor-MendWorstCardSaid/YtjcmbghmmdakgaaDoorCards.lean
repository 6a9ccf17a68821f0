/-
  DERIVED. GIVEN WITH THE SEED: THE CARDS: each row of YtjcmbghmmdakgaaDoorRows.lean that lists a variable, with what it lists TIED to the program's text (the seventh form; the later family's looks); each row that meets fmt, with fmt's text TOLD by the authors' own Lean function (tested against real Go, not proved from fmt's source: count such statements apart). THE CARD IS WHAT COUNTS. Prove the row's statement (the work); the ties are given (YtjcmbghmmdakgaaDoorTie.lean); close each card by the builder's one call (the guide's Derived/Test/ToyasCard.lean, 'card_holds'). Laid BY PROGRAM, IN A SANDBOX (cutbox-door.mjs). By AI agents, Wed Nov 11 2026. No macro, syntax, notation, axiom, sorry.
-/
import Derived.Test.YtjcmbghmmdakgaaDoorRows
import GoSem.ClaimSeven
namespace Go.Proofs.YtjcmbghmmdakgaaDoor
namespace Rows

/-- THE TIED CARD OF 'spadillelaw09.MendOne'. -/
def mendOneCard : Claim7 := { stood := { row := mendOneRow, standIns := [], harness := (true, "b3e798cbf446d82692aebae673d0c0476e664c4269eda60c15df88948e96ddc1"), looks := false }, kinds := [], alts := [], laidByText := true, laidKinds := [.data], laidTests := true, laidLooks := .later }
def MendOneCardSaid : Prop := Claim7.holds Tryd.pinned (.plain (OpenSpec.ofChange mendOneSpec)) mendOneCard

/-- THE TIED CARD OF 'spadillelaw09.MendWorst'. -/
def mendWorstCard : Claim7 := { stood := { row := mendWorstRow, standIns := [], harness := (true, "b3e798cbf446d82692aebae673d0c0476e664c4269eda60c15df88948e96ddc1"), looks := false }, kinds := [], alts := [], laidByText := true, laidKinds := [.data], laidTests := true, laidLooks := .later }
def MendWorstCardSaid : Prop := Claim7.holds Tryd.pinned (.plain (OpenSpec.ofChange mendWorstSpec)) mendWorstCard

/-- THE TIED CARD OF 'spadillelaw09.MendNeighbours'. -/
def mendNeighboursCard : Claim7 := { stood := { row := mendNeighboursRow, standIns := [], harness := (true, "b3e798cbf446d82692aebae673d0c0476e664c4269eda60c15df88948e96ddc1"), looks := false }, kinds := [], alts := [], laidByText := true, laidKinds := [.data], laidTests := true, laidLooks := .later }
def MendNeighboursCardSaid : Prop := Claim7.holds Tryd.pinned (.plain (OpenSpec.ofChange mendNeighboursSpec)) mendNeighboursCard

/-- THE TIED CARD OF 'spadillelaw09.MendSaved'. -/
def mendSavedCard : Claim7 := { stood := { row := mendSavedRow, standIns := [], harness := (true, "b3e798cbf446d82692aebae673d0c0476e664c4269eda60c15df88948e96ddc1"), looks := false }, kinds := [], alts := [], laidByText := true, laidKinds := [.data], laidTests := true, laidLooks := .later }
def MendSavedCardSaid : Prop := Claim7.holds Tryd.pinned (.plain (OpenSpec.ofChange mendSavedSpec)) mendSavedCard

/-- THE SECOND FORM's CARD OF 'spadillelaw09.MendOne'. -/
def mendOneUptoCard : Claim7 := { stood := { row := mendOneUptoRow, standIns := [], harness := (true, "b3e798cbf446d82692aebae673d0c0476e664c4269eda60c15df88948e96ddc1"), looks := false }, kinds := [], alts := [], laidByText := true, laidKinds := [.data], laidTests := true, laidLooks := .later }
def MendOneUptoCardSaid : Prop := Claim7.holds Tryd.pinned (.plain (OpenSpec.upto mendOneSpec)) mendOneUptoCard

/-- THE SECOND FORM's CARD OF 'spadillelaw09.MendWorst'. -/
def mendWorstUptoCard : Claim7 := { stood := { row := mendWorstUptoRow, standIns := [], harness := (true, "b3e798cbf446d82692aebae673d0c0476e664c4269eda60c15df88948e96ddc1"), looks := false }, kinds := [], alts := [], laidByText := true, laidKinds := [.data], laidTests := true, laidLooks := .later }
def MendWorstUptoCardSaid : Prop := Claim7.holds Tryd.pinned (.plain (OpenSpec.upto mendWorstSpec)) mendWorstUptoCard

/-- THE SECOND FORM's CARD OF 'spadillelaw09.MendNeighbours'. -/
def mendNeighboursUptoCard : Claim7 := { stood := { row := mendNeighboursUptoRow, standIns := [], harness := (true, "b3e798cbf446d82692aebae673d0c0476e664c4269eda60c15df88948e96ddc1"), looks := false }, kinds := [], alts := [], laidByText := true, laidKinds := [.data], laidTests := true, laidLooks := .later }
def MendNeighboursUptoCardSaid : Prop := Claim7.holds Tryd.pinned (.plain (OpenSpec.upto mendNeighboursSpec)) mendNeighboursUptoCard

/-- THE SECOND FORM's CARD OF 'spadillelaw09.MendSaved'. -/
def mendSavedUptoCard : Claim7 := { stood := { row := mendSavedUptoRow, standIns := [], harness := (true, "b3e798cbf446d82692aebae673d0c0476e664c4269eda60c15df88948e96ddc1"), looks := false }, kinds := [], alts := [], laidByText := true, laidKinds := [.data], laidTests := true, laidLooks := .later }
def MendSavedUptoCardSaid : Prop := Claim7.holds Tryd.pinned (.plain (OpenSpec.upto mendSavedSpec)) mendSavedUptoCard
end Rows
end Go.Proofs.YtjcmbghmmdakgaaDoor
