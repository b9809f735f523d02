/-
  DERIVED. GIVEN WITH THE SEED: THE CARDS: each row of YtmacgdcmgbkfnaaGreatDoorRows.lean that lists a variable, with what it lists TIED to the program's text (the seventh form; the later family's looks); each row that meets fmt, with fmt's text TOLD by the authors' own Lean function (tested against real Go, not proved from fmt's source: count such statements apart). THE CARD IS WHAT COUNTS. Prove the row's statement (the work); the ties are given (YtmacgdcmgbkfnaaGreatDoorTie.lean); close each card by the builder's one call (the guide's Derived/Test/ToyasCard.lean, 'card_holds'). Laid BY PROGRAM, IN A SANDBOX (cutbox-door.mjs). By AI agents, Wed Nov 11 2026. No macro, syntax, notation, axiom, sorry.
-/
import Derived.Test.YtmacgdcmgbkfnaaGreatDoorRows
import GoSem.ClaimSeven
namespace Go.Proofs.YtmacgdcmgbkfnaaGreatDoor
namespace Rows

/-- THE TIED CARD OF 'thimblelaw12.CalcCompares'. -/
def calcComparesCard : Claim7 := { stood := { row := calcComparesRow, standIns := [], harness := (true, "0fd9166c81f79afe98fbce212d571da64c24340e26b3bd0718b450db091b3b54"), looks := false }, kinds := [], alts := [], laidByText := true, laidKinds := [.data, .data, .data, .data, .data, .pinned], laidTests := true, laidLooks := .later }
def CalcComparesCardSaid : Prop := Claim7.holds Tryz.pinned (.plain (OpenSpec.ofChange calcComparesSpec)) calcComparesCard

/-- THE TIED CARD OF 'thimblelaw12.CalcParts'. -/
def calcPartsCard : Claim7 := { stood := { row := calcPartsRow, standIns := [], harness := (true, "0fd9166c81f79afe98fbce212d571da64c24340e26b3bd0718b450db091b3b54"), looks := false }, kinds := [], alts := [], laidByText := true, laidKinds := [.data, .data, .data, .data, .data, .pinned], laidTests := true, laidLooks := .later }
def CalcPartsCardSaid : Prop := Claim7.holds Tryz.pinned (.plain (OpenSpec.ofChange calcPartsSpec)) calcPartsCard

/-- THE TIED CARD OF 'thimblelaw12.CalcLengths'. -/
def calcLengthsCard : Claim7 := { stood := { row := calcLengthsRow, standIns := [], harness := (true, "0fd9166c81f79afe98fbce212d571da64c24340e26b3bd0718b450db091b3b54"), looks := false }, kinds := [], alts := [], laidByText := true, laidKinds := [.data, .data, .data, .data, .data, .pinned], laidTests := true, laidLooks := .later }
def CalcLengthsCardSaid : Prop := Claim7.holds Tryz.pinned (.plain (OpenSpec.ofChange calcLengthsSpec)) calcLengthsCard

/-- THE SECOND FORM's CARD OF 'thimblelaw12.CalcCompares'. -/
def calcComparesUptoCard : Claim7 := { stood := { row := calcComparesUptoRow, standIns := [], harness := (true, "0fd9166c81f79afe98fbce212d571da64c24340e26b3bd0718b450db091b3b54"), looks := false }, kinds := [], alts := [], laidByText := true, laidKinds := [.data, .data, .data, .data, .data, .pinned], laidTests := true, laidLooks := .later }
def CalcComparesUptoCardSaid : Prop := Claim7.holds Tryz.pinned (.plain (OpenSpec.upto calcComparesSpec)) calcComparesUptoCard

/-- THE SECOND FORM's CARD OF 'thimblelaw12.CalcParts'. -/
def calcPartsUptoCard : Claim7 := { stood := { row := calcPartsUptoRow, standIns := [], harness := (true, "0fd9166c81f79afe98fbce212d571da64c24340e26b3bd0718b450db091b3b54"), looks := false }, kinds := [], alts := [], laidByText := true, laidKinds := [.data, .data, .data, .data, .data, .pinned], laidTests := true, laidLooks := .later }
def CalcPartsUptoCardSaid : Prop := Claim7.holds Tryz.pinned (.plain (OpenSpec.upto calcPartsSpec)) calcPartsUptoCard

/-- THE SECOND FORM's CARD OF 'thimblelaw12.CalcLengths'. -/
def calcLengthsUptoCard : Claim7 := { stood := { row := calcLengthsUptoRow, standIns := [], harness := (true, "0fd9166c81f79afe98fbce212d571da64c24340e26b3bd0718b450db091b3b54"), looks := false }, kinds := [], alts := [], laidByText := true, laidKinds := [.data, .data, .data, .data, .data, .pinned], laidTests := true, laidLooks := .later }
def CalcLengthsUptoCardSaid : Prop := Claim7.holds Tryz.pinned (.plain (OpenSpec.upto calcLengthsSpec)) calcLengthsUptoCard
end Rows
end Go.Proofs.YtmacgdcmgbkfnaaGreatDoor
