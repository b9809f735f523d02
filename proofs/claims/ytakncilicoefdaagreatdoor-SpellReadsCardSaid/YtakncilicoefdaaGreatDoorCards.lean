/-
  DERIVED. GIVEN WITH THE SEED: THE CARDS: each row of YtakncilicoefdaaGreatDoorRows.lean that lists a variable, with what it lists TIED to the program's text (the seventh form; the later family's looks); each row that meets fmt, with fmt's text TOLD by the authors' own Lean function (tested against real Go, not proved from fmt's source: count such statements apart). THE CARD IS WHAT COUNTS. Prove the row's statement (the work); the ties are given (YtakncilicoefdaaGreatDoorTie.lean); close each card by the builder's one call (the guide's Derived/Test/ToyasCard.lean, 'card_holds'). Laid BY PROGRAM, IN A SANDBOX (cutbox-door.mjs). By AI agents, Wed Nov 11 2026. No macro, syntax, notation, axiom, sorry.
-/
import Derived.Test.YtakncilicoefdaaGreatDoorRows
import GoSem.ClaimSeven
namespace Go.Proofs.YtakncilicoefdaaGreatDoor
namespace Rows

/-- THE TIED CARD OF 'thimblelaw11.SpellPrints'. -/
def spellPrintsCard : Claim7 := { stood := { row := spellPrintsRow, standIns := [], harness := (true, "33634b054179a1ddcd132d50c55952a72ebb48db28a60821f01b6039cf2d012f"), looks := true }, kinds := [], alts := [], laidByText := true, laidKinds := [.data, .data, .data, .data, .data, .pinned], laidTests := true, laidLooks := .later }
def SpellPrintsCardSaid : Prop := Claim7.holds Tryz.pinned (.plain (OpenSpec.ofChange spellPrintsSpec)) spellPrintsCard

/-- THE TIED CARD OF 'thimblelaw11.SpellSames'. -/
def spellSamesCard : Claim7 := { stood := { row := spellSamesRow, standIns := [], harness := (true, "33634b054179a1ddcd132d50c55952a72ebb48db28a60821f01b6039cf2d012f"), looks := true }, kinds := [], alts := [], laidByText := true, laidKinds := [.data, .data, .data, .data, .data, .pinned], laidTests := true, laidLooks := .later }
def SpellSamesCardSaid : Prop := Claim7.holds Tryz.pinned (.plain (OpenSpec.ofChange spellSamesSpec)) spellSamesCard

/-- THE TIED CARD OF 'thimblelaw11.SpellBack'. -/
def spellBackCard : Claim7 := { stood := { row := spellBackRow, standIns := [], harness := (true, "33634b054179a1ddcd132d50c55952a72ebb48db28a60821f01b6039cf2d012f"), looks := true }, kinds := [], alts := [], laidByText := true, laidKinds := [.data, .data, .data, .data, .data, .pinned], laidTests := true, laidLooks := .later }
def SpellBackCardSaid : Prop := Claim7.holds Tryz.pinned (.plain (OpenSpec.ofChange spellBackSpec)) spellBackCard

/-- THE TIED CARD OF 'thimblelaw11.SpellReads'. -/
def spellReadsCard : Claim7 := { stood := { row := spellReadsRow, standIns := [], harness := (true, "33634b054179a1ddcd132d50c55952a72ebb48db28a60821f01b6039cf2d012f"), looks := true }, kinds := [], alts := [], laidByText := true, laidKinds := [.data, .data, .data, .data, .data, .pinned], laidTests := true, laidLooks := .later }
def SpellReadsCardSaid : Prop := Claim7.holds Tryz.pinned (.plain (OpenSpec.ofChange spellReadsSpec)) spellReadsCard

/-- THE SECOND FORM's CARD OF 'thimblelaw11.SpellPrints'. -/
def spellPrintsUptoCard : Claim7 := { stood := { row := spellPrintsUptoRow, standIns := [], harness := (true, "33634b054179a1ddcd132d50c55952a72ebb48db28a60821f01b6039cf2d012f"), looks := true }, kinds := [], alts := [], laidByText := true, laidKinds := [.data, .data, .data, .data, .data, .pinned], laidTests := true, laidLooks := .later }
def SpellPrintsUptoCardSaid : Prop := Claim7.holds Tryz.pinned (.plain (OpenSpec.upto spellPrintsSpec)) spellPrintsUptoCard

/-- THE SECOND FORM's CARD OF 'thimblelaw11.SpellSames'. -/
def spellSamesUptoCard : Claim7 := { stood := { row := spellSamesUptoRow, standIns := [], harness := (true, "33634b054179a1ddcd132d50c55952a72ebb48db28a60821f01b6039cf2d012f"), looks := true }, kinds := [], alts := [], laidByText := true, laidKinds := [.data, .data, .data, .data, .data, .pinned], laidTests := true, laidLooks := .later }
def SpellSamesUptoCardSaid : Prop := Claim7.holds Tryz.pinned (.plain (OpenSpec.upto spellSamesSpec)) spellSamesUptoCard

/-- THE SECOND FORM's CARD OF 'thimblelaw11.SpellBack'. -/
def spellBackUptoCard : Claim7 := { stood := { row := spellBackUptoRow, standIns := [], harness := (true, "33634b054179a1ddcd132d50c55952a72ebb48db28a60821f01b6039cf2d012f"), looks := true }, kinds := [], alts := [], laidByText := true, laidKinds := [.data, .data, .data, .data, .data, .pinned], laidTests := true, laidLooks := .later }
def SpellBackUptoCardSaid : Prop := Claim7.holds Tryz.pinned (.plain (OpenSpec.upto spellBackSpec)) spellBackUptoCard

/-- THE SECOND FORM's CARD OF 'thimblelaw11.SpellReads'. -/
def spellReadsUptoCard : Claim7 := { stood := { row := spellReadsUptoRow, standIns := [], harness := (true, "33634b054179a1ddcd132d50c55952a72ebb48db28a60821f01b6039cf2d012f"), looks := true }, kinds := [], alts := [], laidByText := true, laidKinds := [.data, .data, .data, .data, .data, .pinned], laidTests := true, laidLooks := .later }
def SpellReadsUptoCardSaid : Prop := Claim7.holds Tryz.pinned (.plain (OpenSpec.upto spellReadsSpec)) spellReadsUptoCard
end Rows
end Go.Proofs.YtakncilicoefdaaGreatDoor
