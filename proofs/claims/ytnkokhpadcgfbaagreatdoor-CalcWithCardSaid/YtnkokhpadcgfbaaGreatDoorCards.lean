/-
  DERIVED. GIVEN WITH THE SEED: THE CARDS: each row of YtnkokhpadcgfbaaGreatDoorRows.lean that lists a variable, with what it lists TIED to the program's text (the seventh form; the later family's looks); each row that meets fmt, with fmt's text TOLD by the authors' own Lean function (tested against real Go, not proved from fmt's source: count such statements apart). THE CARD IS WHAT COUNTS. Prove the row's statement (the work); the ties are given (YtnkokhpadcgfbaaGreatDoorTie.lean); close each card by the builder's one call (the guide's Derived/Test/ToyasCard.lean, 'card_holds'). Laid BY PROGRAM, IN A SANDBOX (cutbox-door.mjs). By AI agents, Wed Nov 11 2026. No macro, syntax, notation, axiom, sorry.
-/
import Derived.Test.YtnkokhpadcgfbaaGreatDoorRows
import GoSem.ClaimSeven
namespace Go.Proofs.YtnkokhpadcgfbaaGreatDoor
namespace Rows

/-- THE TIED CARD OF 'thimblelaw12.CalcOpers'. -/
def calcOpersCard : Claim7 := { stood := { row := calcOpersRow, standIns := [], harness := (true, "7d3734953a93bd59313687243d947b295e8246a6ca55320cde251decb3f91cd2"), looks := false }, kinds := [], alts := [], laidByText := true, laidKinds := [.data, .data, .data, .data, .data, .data, .pinned], laidTests := true, laidLooks := .later }
def CalcOpersCardSaid : Prop := Claim7.holds Tryz.pinned (.plain (OpenSpec.ofChange calcOpersSpec)) calcOpersCard

/-- THE TIED CARD OF 'thimblelaw12.CalcPlain'. -/
def calcPlainCard : Claim7 := { stood := { row := calcPlainRow, standIns := [], harness := (true, "7d3734953a93bd59313687243d947b295e8246a6ca55320cde251decb3f91cd2"), looks := false }, kinds := [], alts := [], laidByText := true, laidKinds := [.data, .data, .data, .data, .data, .data, .pinned], laidTests := true, laidLooks := .later }
def CalcPlainCardSaid : Prop := Claim7.holds Tryz.pinned (.plain (OpenSpec.ofChange calcPlainSpec)) calcPlainCard

/-- THE TIED CARD OF 'thimblelaw12.CalcWith'. -/
def calcWithCard : Claim7 := { stood := { row := calcWithRow, standIns := [], harness := (true, "7d3734953a93bd59313687243d947b295e8246a6ca55320cde251decb3f91cd2"), looks := false }, kinds := [], alts := [], laidByText := true, laidKinds := [.data, .data, .data, .data, .data, .pinned], laidTests := true, laidLooks := .later }
def CalcWithCardSaid : Prop := Claim7.holds Tryz.pinned (.plain (OpenSpec.ofChange calcWithSpec)) calcWithCard

/-- THE TIED CARD OF 'thimblelaw12.CalcLengths'. -/
def calcLengthsCard : Claim7 := { stood := { row := calcLengthsRow, standIns := [], harness := (true, "7d3734953a93bd59313687243d947b295e8246a6ca55320cde251decb3f91cd2"), looks := false }, kinds := [], alts := [], laidByText := true, laidKinds := [.data, .data, .data, .data, .data, .pinned], laidTests := true, laidLooks := .later }
def CalcLengthsCardSaid : Prop := Claim7.holds Tryz.pinned (.plain (OpenSpec.ofChange calcLengthsSpec)) calcLengthsCard

/-- THE SECOND FORM's CARD OF 'thimblelaw12.CalcOpers'. -/
def calcOpersUptoCard : Claim7 := { stood := { row := calcOpersUptoRow, standIns := [], harness := (true, "7d3734953a93bd59313687243d947b295e8246a6ca55320cde251decb3f91cd2"), looks := false }, kinds := [], alts := [], laidByText := true, laidKinds := [.data, .data, .data, .data, .data, .data, .pinned], laidTests := true, laidLooks := .later }
def CalcOpersUptoCardSaid : Prop := Claim7.holds Tryz.pinned (.plain (OpenSpec.upto calcOpersSpec)) calcOpersUptoCard

/-- THE SECOND FORM's CARD OF 'thimblelaw12.CalcPlain'. -/
def calcPlainUptoCard : Claim7 := { stood := { row := calcPlainUptoRow, standIns := [], harness := (true, "7d3734953a93bd59313687243d947b295e8246a6ca55320cde251decb3f91cd2"), looks := false }, kinds := [], alts := [], laidByText := true, laidKinds := [.data, .data, .data, .data, .data, .data, .pinned], laidTests := true, laidLooks := .later }
def CalcPlainUptoCardSaid : Prop := Claim7.holds Tryz.pinned (.plain (OpenSpec.upto calcPlainSpec)) calcPlainUptoCard

/-- THE SECOND FORM's CARD OF 'thimblelaw12.CalcWith'. -/
def calcWithUptoCard : Claim7 := { stood := { row := calcWithUptoRow, standIns := [], harness := (true, "7d3734953a93bd59313687243d947b295e8246a6ca55320cde251decb3f91cd2"), looks := false }, kinds := [], alts := [], laidByText := true, laidKinds := [.data, .data, .data, .data, .data, .pinned], laidTests := true, laidLooks := .later }
def CalcWithUptoCardSaid : Prop := Claim7.holds Tryz.pinned (.plain (OpenSpec.upto calcWithSpec)) calcWithUptoCard

/-- THE SECOND FORM's CARD OF 'thimblelaw12.CalcLengths'. -/
def calcLengthsUptoCard : Claim7 := { stood := { row := calcLengthsUptoRow, standIns := [], harness := (true, "7d3734953a93bd59313687243d947b295e8246a6ca55320cde251decb3f91cd2"), looks := false }, kinds := [], alts := [], laidByText := true, laidKinds := [.data, .data, .data, .data, .data, .pinned], laidTests := true, laidLooks := .later }
def CalcLengthsUptoCardSaid : Prop := Claim7.holds Tryz.pinned (.plain (OpenSpec.upto calcLengthsSpec)) calcLengthsUptoCard
end Rows
end Go.Proofs.YtnkokhpadcgfbaaGreatDoor
