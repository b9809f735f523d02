/-
  DERIVED. GIVEN WITH THE SEED: THE CARDS: each row of YtohhnkmfgfgpjaaDoorRows.lean that lists a variable, with what it lists TIED to the program's text (the seventh form; the later family's looks); each row that meets fmt, with fmt's text TOLD by the authors' own Lean function (tested against real Go, not proved from fmt's source: count such statements apart). THE CARD IS WHAT COUNTS. Prove the row's statement (the work); the ties are given (YtohhnkmfgfgpjaaDoorTie.lean); close each card by the builder's one call (the guide's Derived/Test/ToyasCard.lean, 'card_holds'). Laid BY PROGRAM, IN A SANDBOX (cutbox-door.mjs). By AI agents, Wed Nov 11 2026. No macro, syntax, notation, axiom, sorry.
-/
import Derived.Test.YtohhnkmfgfgpjaaDoorRows
import GoSem.ClaimSeven
namespace Go.Proofs.YtohhnkmfgfgpjaaDoor
namespace Rows

/-- THE TIED CARD OF 'thimblelaw06.ReadCuts'. -/
def readCutsCard : Claim7 := { stood := { row := readCutsRow, standIns := [], harness := (true, "b581074095e62b13175a34a5436f64b7e314b2a6b0a5825ce967cf3e3c383e72"), looks := false }, kinds := [], alts := [], laidByText := true, laidKinds := [.data, .data, .pinned], laidTests := true, laidLooks := .later }
def ReadCutsCardSaid : Prop := Claim7.holds Tryd.pinned (.plain (OpenSpec.ofChange readCutsSpec)) readCutsCard

/-- THE TIED CARD OF 'thimblelaw06.ReadBlanks'. -/
def readBlanksCard : Claim7 := { stood := { row := readBlanksRow, standIns := [], harness := (true, "b581074095e62b13175a34a5436f64b7e314b2a6b0a5825ce967cf3e3c383e72"), looks := false }, kinds := [], alts := [], laidByText := true, laidKinds := [.data, .data, .pinned], laidTests := true, laidLooks := .later }
def ReadBlanksCardSaid : Prop := Claim7.holds Tryd.pinned (.plain (OpenSpec.ofChange readBlanksSpec)) readBlanksCard

/-- THE SECOND FORM's CARD OF 'thimblelaw06.ReadCuts'. -/
def readCutsUptoCard : Claim7 := { stood := { row := readCutsUptoRow, standIns := [], harness := (true, "b581074095e62b13175a34a5436f64b7e314b2a6b0a5825ce967cf3e3c383e72"), looks := false }, kinds := [], alts := [], laidByText := true, laidKinds := [.data, .data, .pinned], laidTests := true, laidLooks := .later }
def ReadCutsUptoCardSaid : Prop := Claim7.holds Tryd.pinned (.plain (OpenSpec.upto readCutsSpec)) readCutsUptoCard

/-- THE SECOND FORM's CARD OF 'thimblelaw06.ReadBlanks'. -/
def readBlanksUptoCard : Claim7 := { stood := { row := readBlanksUptoRow, standIns := [], harness := (true, "b581074095e62b13175a34a5436f64b7e314b2a6b0a5825ce967cf3e3c383e72"), looks := false }, kinds := [], alts := [], laidByText := true, laidKinds := [.data, .data, .pinned], laidTests := true, laidLooks := .later }
def ReadBlanksUptoCardSaid : Prop := Claim7.holds Tryd.pinned (.plain (OpenSpec.upto readBlanksSpec)) readBlanksUptoCard
end Rows
end Go.Proofs.YtohhnkmfgfgpjaaDoor
