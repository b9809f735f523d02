/-
  DERIVED. GIVEN WITH THE SEED: THE CARDS: each row of YtinknjhclpaieaaGreatDoorRows.lean that lists a variable, with what it lists TIED to the program's text (the seventh form; the later family's looks); each row that meets fmt, with fmt's text TOLD by the authors' own Lean function (tested against real Go, not proved from fmt's source: count such statements apart). THE CARD IS WHAT COUNTS. Prove the row's statement (the work); the ties are given (YtinknjhclpaieaaGreatDoorTie.lean); close each card by the builder's one call (the guide's Derived/Test/ToyasCard.lean, 'card_holds'). Laid BY PROGRAM, IN A SANDBOX (cutbox-door.mjs). By AI agents, Wed Nov 11 2026. No macro, syntax, notation, axiom, sorry.
-/
import Derived.Test.YtinknjhclpaieaaGreatDoorRows
import GoSem.ClaimSeven
namespace Go.Proofs.YtinknjhclpaieaaGreatDoor
namespace Rows

/-- THE TIED CARD OF 'thimblelaw10.SyntaxParses'. -/
def syntaxParsesCard : Claim7 := { stood := { row := syntaxParsesRow, standIns := [], harness := (true, "911d53350ce69afa94a9cd7b3e847f838b68be71f54a86bb5d969ee3be9d19e3"), looks := true }, kinds := [], alts := [], laidByText := true, laidKinds := [.data, .data, .pinned], laidTests := true, laidLooks := .later }
def SyntaxParsesCardSaid : Prop := Claim7.holds Tryz.pinned (.plain (OpenSpec.ofChange syntaxParsesSpec)) syntaxParsesCard

/-- THE TIED CARD OF 'thimblelaw10.SyntaxPieces'. -/
def syntaxPiecesCard : Claim7 := { stood := { row := syntaxPiecesRow, standIns := [], harness := (true, "911d53350ce69afa94a9cd7b3e847f838b68be71f54a86bb5d969ee3be9d19e3"), looks := true }, kinds := [], alts := [], laidByText := true, laidKinds := [.data, .data, .pinned], laidTests := true, laidLooks := .later }
def SyntaxPiecesCardSaid : Prop := Claim7.holds Tryz.pinned (.plain (OpenSpec.ofChange syntaxPiecesSpec)) syntaxPiecesCard

/-- THE SECOND FORM's CARD OF 'thimblelaw10.SyntaxParses'. -/
def syntaxParsesUptoCard : Claim7 := { stood := { row := syntaxParsesUptoRow, standIns := [], harness := (true, "911d53350ce69afa94a9cd7b3e847f838b68be71f54a86bb5d969ee3be9d19e3"), looks := true }, kinds := [], alts := [], laidByText := true, laidKinds := [.data, .data, .pinned], laidTests := true, laidLooks := .later }
def SyntaxParsesUptoCardSaid : Prop := Claim7.holds Tryz.pinned (.plain (OpenSpec.upto syntaxParsesSpec)) syntaxParsesUptoCard

/-- THE SECOND FORM's CARD OF 'thimblelaw10.SyntaxPieces'. -/
def syntaxPiecesUptoCard : Claim7 := { stood := { row := syntaxPiecesUptoRow, standIns := [], harness := (true, "911d53350ce69afa94a9cd7b3e847f838b68be71f54a86bb5d969ee3be9d19e3"), looks := true }, kinds := [], alts := [], laidByText := true, laidKinds := [.data, .data, .pinned], laidTests := true, laidLooks := .later }
def SyntaxPiecesUptoCardSaid : Prop := Claim7.holds Tryz.pinned (.plain (OpenSpec.upto syntaxPiecesSpec)) syntaxPiecesUptoCard
end Rows
end Go.Proofs.YtinknjhclpaieaaGreatDoor
