/-
  DERIVED. GIVEN WITH THE SEED: THE CARDS: each row of YtnhnpahoppbniaaDoorRows.lean that lists a variable, with what it lists TIED to the program's text (the seventh form; the later family's looks); each row that meets fmt, with fmt's text TOLD by the authors' own Lean function (tested against real Go, not proved from fmt's source: count such statements apart). THE CARD IS WHAT COUNTS. Prove the row's statement (the work); the ties are given (YtnhnpahoppbniaaDoorTie.lean); close each card by the builder's one call (the guide's Derived/Test/ToyasCard.lean, 'card_holds'). Laid BY PROGRAM, IN A SANDBOX (cutbox-door.mjs). By AI agents, Wed Nov 11 2026. No macro, syntax, notation, axiom, sorry.
-/
import Derived.Test.YtnhnpahoppbniaaDoorRows
import GoSem.ClaimSeven
namespace Go.Proofs.YtnhnpahoppbniaaDoor
namespace Rows

/-- THE TIED CARD OF 'thimblelaw10.SyntaxBrackets'. -/
def syntaxBracketsCard : Claim7 := { stood := { row := syntaxBracketsRow, standIns := [], harness := (true, "0d77cba5436ab31d6618d6ab3345fb8595d549fae6c07bf35c8858675ea8a4af"), looks := true }, kinds := [], alts := [], laidByText := true, laidKinds := [.data, .data, .pinned], laidTests := true, laidLooks := .later }
def SyntaxBracketsCardSaid : Prop := Claim7.holds Tryd.pinned (.plain (OpenSpec.ofChange syntaxBracketsSpec)) syntaxBracketsCard

/-- THE TIED CARD OF 'thimblelaw10.SyntaxJoins'. -/
def syntaxJoinsCard : Claim7 := { stood := { row := syntaxJoinsRow, standIns := [], harness := (true, "0d77cba5436ab31d6618d6ab3345fb8595d549fae6c07bf35c8858675ea8a4af"), looks := true }, kinds := [], alts := [], laidByText := true, laidKinds := [.data, .data, .pinned], laidTests := true, laidLooks := .later }
def SyntaxJoinsCardSaid : Prop := Claim7.holds Tryd.pinned (.plain (OpenSpec.ofChange syntaxJoinsSpec)) syntaxJoinsCard

/-- THE TIED CARD OF 'thimblelaw10.SyntaxSides'. -/
def syntaxSidesCard : Claim7 := { stood := { row := syntaxSidesRow, standIns := [], harness := (true, "0d77cba5436ab31d6618d6ab3345fb8595d549fae6c07bf35c8858675ea8a4af"), looks := true }, kinds := [], alts := [], laidByText := true, laidKinds := [.data, .data, .pinned], laidTests := true, laidLooks := .later }
def SyntaxSidesCardSaid : Prop := Claim7.holds Tryd.pinned (.plain (OpenSpec.ofChange syntaxSidesSpec)) syntaxSidesCard

/-- THE SECOND FORM's CARD OF 'thimblelaw10.SyntaxBrackets'. -/
def syntaxBracketsUptoCard : Claim7 := { stood := { row := syntaxBracketsUptoRow, standIns := [], harness := (true, "0d77cba5436ab31d6618d6ab3345fb8595d549fae6c07bf35c8858675ea8a4af"), looks := true }, kinds := [], alts := [], laidByText := true, laidKinds := [.data, .data, .pinned], laidTests := true, laidLooks := .later }
def SyntaxBracketsUptoCardSaid : Prop := Claim7.holds Tryd.pinned (.plain (OpenSpec.upto syntaxBracketsSpec)) syntaxBracketsUptoCard

/-- THE SECOND FORM's CARD OF 'thimblelaw10.SyntaxJoins'. -/
def syntaxJoinsUptoCard : Claim7 := { stood := { row := syntaxJoinsUptoRow, standIns := [], harness := (true, "0d77cba5436ab31d6618d6ab3345fb8595d549fae6c07bf35c8858675ea8a4af"), looks := true }, kinds := [], alts := [], laidByText := true, laidKinds := [.data, .data, .pinned], laidTests := true, laidLooks := .later }
def SyntaxJoinsUptoCardSaid : Prop := Claim7.holds Tryd.pinned (.plain (OpenSpec.upto syntaxJoinsSpec)) syntaxJoinsUptoCard

/-- THE SECOND FORM's CARD OF 'thimblelaw10.SyntaxSides'. -/
def syntaxSidesUptoCard : Claim7 := { stood := { row := syntaxSidesUptoRow, standIns := [], harness := (true, "0d77cba5436ab31d6618d6ab3345fb8595d549fae6c07bf35c8858675ea8a4af"), looks := true }, kinds := [], alts := [], laidByText := true, laidKinds := [.data, .data, .pinned], laidTests := true, laidLooks := .later }
def SyntaxSidesUptoCardSaid : Prop := Claim7.holds Tryd.pinned (.plain (OpenSpec.upto syntaxSidesSpec)) syntaxSidesUptoCard
end Rows
end Go.Proofs.YtnhnpahoppbniaaDoor
