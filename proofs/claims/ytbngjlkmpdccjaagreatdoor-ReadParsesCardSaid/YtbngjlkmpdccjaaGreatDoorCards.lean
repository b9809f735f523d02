/-
  DERIVED. GIVEN WITH THE SEED: THE CARDS: each row of YtbngjlkmpdccjaaGreatDoorRows.lean that lists a variable, with what it lists TIED to the program's text (the seventh form; the later family's looks); each row that meets fmt, with fmt's text TOLD by the authors' own Lean function (tested against real Go, not proved from fmt's source: count such statements apart). THE CARD IS WHAT COUNTS. Prove the row's statement (the work); the ties are given (YtbngjlkmpdccjaaGreatDoorTie.lean); close each card by the builder's one call (the guide's Derived/Test/ToyasCard.lean, 'card_holds'). Laid BY PROGRAM, IN A SANDBOX (cutbox-door.mjs). By AI agents, Wed Nov 11 2026. No macro, syntax, notation, axiom, sorry.
-/
import Derived.Test.YtbngjlkmpdccjaaGreatDoorRows
import GoSem.ClaimSeven
namespace Go.Proofs.YtbngjlkmpdccjaaGreatDoor
namespace Rows

/-- THE TIED CARD OF 'thimblelaw06.ReadParses'. -/
def readParsesCard : Claim7 := { stood := { row := readParsesRow, standIns := [], harness := (true, "3d4ff627bf7be512ce1c821de7153396f1f938354819d3d3fb4ca4ad87ebd690"), looks := false }, kinds := [], alts := [], laidByText := true, laidKinds := [.data, .data, .pinned], laidTests := true, laidLooks := .later }
def ReadParsesCardSaid : Prop := Claim7.holds Tryz.pinned (.plain (OpenSpec.ofChange readParsesSpec)) readParsesCard

/-- THE TIED CARD OF 'thimblelaw06.ReadBytes'. -/
def readBytesCard : Claim7 := { stood := { row := readBytesRow, standIns := [], harness := (true, "3d4ff627bf7be512ce1c821de7153396f1f938354819d3d3fb4ca4ad87ebd690"), looks := false }, kinds := [], alts := [], laidByText := true, laidKinds := [.data, .data, .pinned], laidTests := true, laidLooks := .later }
def ReadBytesCardSaid : Prop := Claim7.holds Tryz.pinned (.plain (OpenSpec.ofChange readBytesSpec)) readBytesCard

/-- THE SECOND FORM's CARD OF 'thimblelaw06.ReadParses'. -/
def readParsesUptoCard : Claim7 := { stood := { row := readParsesUptoRow, standIns := [], harness := (true, "3d4ff627bf7be512ce1c821de7153396f1f938354819d3d3fb4ca4ad87ebd690"), looks := false }, kinds := [], alts := [], laidByText := true, laidKinds := [.data, .data, .pinned], laidTests := true, laidLooks := .later }
def ReadParsesUptoCardSaid : Prop := Claim7.holds Tryz.pinned (.plain (OpenSpec.upto readParsesSpec)) readParsesUptoCard

/-- THE SECOND FORM's CARD OF 'thimblelaw06.ReadBytes'. -/
def readBytesUptoCard : Claim7 := { stood := { row := readBytesUptoRow, standIns := [], harness := (true, "3d4ff627bf7be512ce1c821de7153396f1f938354819d3d3fb4ca4ad87ebd690"), looks := false }, kinds := [], alts := [], laidByText := true, laidKinds := [.data, .data, .pinned], laidTests := true, laidLooks := .later }
def ReadBytesUptoCardSaid : Prop := Claim7.holds Tryz.pinned (.plain (OpenSpec.upto readBytesSpec)) readBytesUptoCard
end Rows
end Go.Proofs.YtbngjlkmpdccjaaGreatDoor
