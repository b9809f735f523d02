/-
  DERIVED. GIVEN WITH THE SEED: THE CARDS: each row of YtfgcelcmbjokgaaGreatDoorRows.lean that lists a variable, with what it lists TIED to the program's text (the seventh form; the later family's looks); each row that meets fmt, with fmt's text TOLD by the authors' own Lean function (tested against real Go, not proved from fmt's source: count such statements apart). THE CARD IS WHAT COUNTS. Prove the row's statement (the work); the ties are given (YtfgcelcmbjokgaaGreatDoorTie.lean); close each card by the builder's one call (the guide's Derived/Test/ToyasCard.lean, 'card_holds'). Laid BY PROGRAM, IN A SANDBOX (cutbox-door.mjs). By AI agents, Wed Nov 11 2026. No macro, syntax, notation, axiom, sorry.
-/
import Derived.Test.YtfgcelcmbjokgaaGreatDoorRows
import GoSem.ClaimSeven
namespace Go.Proofs.YtfgcelcmbjokgaaGreatDoor
namespace Rows

/-- THE TIED CARD OF 'thimblelaw24.TableNobody'. -/
def tableNobodyCard : Claim7 := { stood := { row := tableNobodyRow, standIns := [], harness := (true, "c5f25c73a905d95b8a506f0fdb0884d13e9679ceac7234222ae89ce6614a8a1a"), looks := true }, kinds := [], alts := [], laidByText := true, laidKinds := [.data, .data, .data, .data, .data, .pinned], laidTests := true, laidLooks := .later }
def TableNobodyCardSaid : Prop := Claim7.holds Tryz.pinned (.plain (OpenSpec.ofChange tableNobodySpec)) tableNobodyCard

/-- THE SECOND FORM's CARD OF 'thimblelaw24.TableNobody'. -/
def tableNobodyUptoCard : Claim7 := { stood := { row := tableNobodyUptoRow, standIns := [], harness := (true, "c5f25c73a905d95b8a506f0fdb0884d13e9679ceac7234222ae89ce6614a8a1a"), looks := true }, kinds := [], alts := [], laidByText := true, laidKinds := [.data, .data, .data, .data, .data, .pinned], laidTests := true, laidLooks := .later }
def TableNobodyUptoCardSaid : Prop := Claim7.holds Tryz.pinned (.plain (OpenSpec.upto tableNobodySpec)) tableNobodyUptoCard
end Rows
end Go.Proofs.YtfgcelcmbjokgaaGreatDoor
