/-
  DERIVED. GIVEN WITH THE SEED: THE CARDS: each row of YtljemfajjeoecaaDoorRows.lean that lists a variable, with what it lists TIED to the program's text (the seventh form; the later family's looks); each row that meets fmt, with fmt's text TOLD by the authors' own Lean function (tested against real Go, not proved from fmt's source: count such statements apart). THE CARD IS WHAT COUNTS. Prove the row's statement (the work); the ties are given (YtljemfajjeoecaaDoorTie.lean); close each card by the builder's one call (the guide's Derived/Test/ToyasCard.lean, 'card_holds'). Laid BY PROGRAM, IN A SANDBOX (cutbox-door.mjs). By AI agents, Wed Nov 11 2026. No macro, syntax, notation, axiom, sorry.
-/
import Derived.Test.YtljemfajjeoecaaDoorRows
import GoSem.ClaimSeven
namespace Go.Proofs.YtljemfajjeoecaaDoor
namespace Rows

/-- THE TIED CARD OF 'thimblelaw07.WritePrints'. -/
def writePrintsCard : Claim7 := { stood := { row := writePrintsRow, standIns := [], harness := (true, "dad90c8952c7df167fdd8e480552c7fe50a0ad55cc2b258674a0cbdd8a42e441"), looks := false }, kinds := [], alts := [], laidByText := true, laidKinds := [.data, .data, .data, .data, .data, .pinned], laidTests := true, laidLooks := .later }
def WritePrintsCardSaid : Prop := Claim7.holds Tryd.pinned (.plain (OpenSpec.ofChange writePrintsSpec)) writePrintsCard

/-- THE TIED CARD OF 'thimblelaw07.WriteClean'. -/
def writeCleanCard : Claim7 := { stood := { row := writeCleanRow, standIns := [], harness := (true, "dad90c8952c7df167fdd8e480552c7fe50a0ad55cc2b258674a0cbdd8a42e441"), looks := false }, kinds := [], alts := [], laidByText := true, laidKinds := [.data, .data, .data, .data, .data, .pinned], laidTests := true, laidLooks := .later }
def WriteCleanCardSaid : Prop := Claim7.holds Tryd.pinned (.plain (OpenSpec.ofChange writeCleanSpec)) writeCleanCard

/-- THE TIED CARD OF 'thimblelaw07.WriteParts'. -/
def writePartsCard : Claim7 := { stood := { row := writePartsRow, standIns := [], harness := (true, "dad90c8952c7df167fdd8e480552c7fe50a0ad55cc2b258674a0cbdd8a42e441"), looks := false }, kinds := [], alts := [], laidByText := true, laidKinds := [.data, .data, .data, .data, .data, .pinned], laidTests := true, laidLooks := .later }
def WritePartsCardSaid : Prop := Claim7.holds Tryd.pinned (.plain (OpenSpec.ofChange writePartsSpec)) writePartsCard

/-- THE TIED CARD OF 'thimblelaw01.NumReads'. -/
def numReadsCard : Claim7 := { stood := { row := numReadsRow, standIns := [], harness := (true, "dad90c8952c7df167fdd8e480552c7fe50a0ad55cc2b258674a0cbdd8a42e441"), looks := false }, kinds := [], alts := [], laidByText := true, laidKinds := [.data, .data, .data, .data, .data, .pinned], laidTests := true, laidLooks := .later }
def NumReadsCardSaid : Prop := Claim7.holds Tryd.pinned (.plain (OpenSpec.ofChange numReadsSpec)) numReadsCard

/-- THE TIED CARD OF 'thimblelaw01.NumWrites'. -/
def numWritesCard : Claim7 := { stood := { row := numWritesRow, standIns := [], harness := (true, "dad90c8952c7df167fdd8e480552c7fe50a0ad55cc2b258674a0cbdd8a42e441"), looks := false }, kinds := [], alts := [], laidByText := true, laidKinds := [.data, .data, .data, .data, .data, .pinned], laidTests := true, laidLooks := .later }
def NumWritesCardSaid : Prop := Claim7.holds Tryd.pinned (.plain (OpenSpec.ofChange numWritesSpec)) numWritesCard

/-- THE TIED CARD OF 'thimblelaw01.NumBack'. -/
def numBackCard : Claim7 := { stood := { row := numBackRow, standIns := [], harness := (true, "dad90c8952c7df167fdd8e480552c7fe50a0ad55cc2b258674a0cbdd8a42e441"), looks := false }, kinds := [], alts := [], laidByText := true, laidKinds := [.data, .data, .data, .data, .data, .pinned], laidTests := true, laidLooks := .later }
def NumBackCardSaid : Prop := Claim7.holds Tryd.pinned (.plain (OpenSpec.ofChange numBackSpec)) numBackCard

/-- THE TIED CARD OF 'thimblelaw01.NumUndoes'. -/
def numUndoesCard : Claim7 := { stood := { row := numUndoesRow, standIns := [], harness := (true, "dad90c8952c7df167fdd8e480552c7fe50a0ad55cc2b258674a0cbdd8a42e441"), looks := false }, kinds := [], alts := [], laidByText := true, laidKinds := [.data, .data, .data, .data, .data, .pinned], laidTests := true, laidLooks := .later }
def NumUndoesCardSaid : Prop := Claim7.holds Tryd.pinned (.plain (OpenSpec.ofChange numUndoesSpec)) numUndoesCard

/-- THE TIED CARD OF 'thimblelaw01.NumFloors'. -/
def numFloorsCard : Claim7 := { stood := { row := numFloorsRow, standIns := [], harness := (true, "dad90c8952c7df167fdd8e480552c7fe50a0ad55cc2b258674a0cbdd8a42e441"), looks := false }, kinds := [], alts := [], laidByText := true, laidKinds := [.data, .data, .data, .data, .data, .pinned], laidTests := true, laidLooks := .later }
def NumFloorsCardSaid : Prop := Claim7.holds Tryd.pinned (.plain (OpenSpec.ofChange numFloorsSpec)) numFloorsCard

/-- THE TIED CARD OF 'thimblelaw01.NumMultiplies'. -/
def numMultipliesCard : Claim7 := { stood := { row := numMultipliesRow, standIns := [], harness := (true, "dad90c8952c7df167fdd8e480552c7fe50a0ad55cc2b258674a0cbdd8a42e441"), looks := false }, kinds := [], alts := [], laidByText := true, laidKinds := [.data, .data, .data, .data, .data, .pinned], laidTests := true, laidLooks := .later }
def NumMultipliesCardSaid : Prop := Claim7.holds Tryd.pinned (.plain (OpenSpec.ofChange numMultipliesSpec)) numMultipliesCard

/-- THE TIED CARD OF 'thimblelaw01.NumAdds'. -/
def numAddsCard : Claim7 := { stood := { row := numAddsRow, standIns := [], harness := (true, "dad90c8952c7df167fdd8e480552c7fe50a0ad55cc2b258674a0cbdd8a42e441"), looks := false }, kinds := [], alts := [], laidByText := true, laidKinds := [.data, .data, .data, .data, .data, .pinned], laidTests := true, laidLooks := .later }
def NumAddsCardSaid : Prop := Claim7.holds Tryd.pinned (.plain (OpenSpec.ofChange numAddsSpec)) numAddsCard

/-- THE TIED CARD OF 'thimblelaw01.NumOrders'. -/
def numOrdersCard : Claim7 := { stood := { row := numOrdersRow, standIns := [], harness := (true, "dad90c8952c7df167fdd8e480552c7fe50a0ad55cc2b258674a0cbdd8a42e441"), looks := false }, kinds := [], alts := [], laidByText := true, laidKinds := [.data, .data, .data, .data, .data, .pinned], laidTests := true, laidLooks := .later }
def NumOrdersCardSaid : Prop := Claim7.holds Tryd.pinned (.plain (OpenSpec.ofChange numOrdersSpec)) numOrdersCard

/-- THE TIED CARD OF 'thimblelaw06.ReadCuts'. -/
def readCutsCard : Claim7 := { stood := { row := readCutsRow, standIns := [], harness := (true, "dad90c8952c7df167fdd8e480552c7fe50a0ad55cc2b258674a0cbdd8a42e441"), looks := false }, kinds := [], alts := [], laidByText := true, laidKinds := [.data, .data, .pinned], laidTests := true, laidLooks := .later }
def ReadCutsCardSaid : Prop := Claim7.holds Tryd.pinned (.plain (OpenSpec.ofChange readCutsSpec)) readCutsCard

/-- THE TIED CARD OF 'thimblelaw06.ReadBlanks'. -/
def readBlanksCard : Claim7 := { stood := { row := readBlanksRow, standIns := [], harness := (true, "dad90c8952c7df167fdd8e480552c7fe50a0ad55cc2b258674a0cbdd8a42e441"), looks := false }, kinds := [], alts := [], laidByText := true, laidKinds := [.data, .data, .pinned], laidTests := true, laidLooks := .later }
def ReadBlanksCardSaid : Prop := Claim7.holds Tryd.pinned (.plain (OpenSpec.ofChange readBlanksSpec)) readBlanksCard

/-- THE SECOND FORM's CARD OF 'thimblelaw07.WritePrints'. -/
def writePrintsUptoCard : Claim7 := { stood := { row := writePrintsUptoRow, standIns := [], harness := (true, "dad90c8952c7df167fdd8e480552c7fe50a0ad55cc2b258674a0cbdd8a42e441"), looks := false }, kinds := [], alts := [], laidByText := true, laidKinds := [.data, .data, .data, .data, .data, .pinned], laidTests := true, laidLooks := .later }
def WritePrintsUptoCardSaid : Prop := Claim7.holds Tryd.pinned (.plain (OpenSpec.upto writePrintsSpec)) writePrintsUptoCard

/-- THE SECOND FORM's CARD OF 'thimblelaw07.WriteClean'. -/
def writeCleanUptoCard : Claim7 := { stood := { row := writeCleanUptoRow, standIns := [], harness := (true, "dad90c8952c7df167fdd8e480552c7fe50a0ad55cc2b258674a0cbdd8a42e441"), looks := false }, kinds := [], alts := [], laidByText := true, laidKinds := [.data, .data, .data, .data, .data, .pinned], laidTests := true, laidLooks := .later }
def WriteCleanUptoCardSaid : Prop := Claim7.holds Tryd.pinned (.plain (OpenSpec.upto writeCleanSpec)) writeCleanUptoCard

/-- THE SECOND FORM's CARD OF 'thimblelaw07.WriteParts'. -/
def writePartsUptoCard : Claim7 := { stood := { row := writePartsUptoRow, standIns := [], harness := (true, "dad90c8952c7df167fdd8e480552c7fe50a0ad55cc2b258674a0cbdd8a42e441"), looks := false }, kinds := [], alts := [], laidByText := true, laidKinds := [.data, .data, .data, .data, .data, .pinned], laidTests := true, laidLooks := .later }
def WritePartsUptoCardSaid : Prop := Claim7.holds Tryd.pinned (.plain (OpenSpec.upto writePartsSpec)) writePartsUptoCard

/-- THE SECOND FORM's CARD OF 'thimblelaw01.NumReads'. -/
def numReadsUptoCard : Claim7 := { stood := { row := numReadsUptoRow, standIns := [], harness := (true, "dad90c8952c7df167fdd8e480552c7fe50a0ad55cc2b258674a0cbdd8a42e441"), looks := false }, kinds := [], alts := [], laidByText := true, laidKinds := [.data, .data, .data, .data, .data, .pinned], laidTests := true, laidLooks := .later }
def NumReadsUptoCardSaid : Prop := Claim7.holds Tryd.pinned (.plain (OpenSpec.upto numReadsSpec)) numReadsUptoCard

/-- THE SECOND FORM's CARD OF 'thimblelaw01.NumWrites'. -/
def numWritesUptoCard : Claim7 := { stood := { row := numWritesUptoRow, standIns := [], harness := (true, "dad90c8952c7df167fdd8e480552c7fe50a0ad55cc2b258674a0cbdd8a42e441"), looks := false }, kinds := [], alts := [], laidByText := true, laidKinds := [.data, .data, .data, .data, .data, .pinned], laidTests := true, laidLooks := .later }
def NumWritesUptoCardSaid : Prop := Claim7.holds Tryd.pinned (.plain (OpenSpec.upto numWritesSpec)) numWritesUptoCard

/-- THE SECOND FORM's CARD OF 'thimblelaw01.NumBack'. -/
def numBackUptoCard : Claim7 := { stood := { row := numBackUptoRow, standIns := [], harness := (true, "dad90c8952c7df167fdd8e480552c7fe50a0ad55cc2b258674a0cbdd8a42e441"), looks := false }, kinds := [], alts := [], laidByText := true, laidKinds := [.data, .data, .data, .data, .data, .pinned], laidTests := true, laidLooks := .later }
def NumBackUptoCardSaid : Prop := Claim7.holds Tryd.pinned (.plain (OpenSpec.upto numBackSpec)) numBackUptoCard

/-- THE SECOND FORM's CARD OF 'thimblelaw01.NumUndoes'. -/
def numUndoesUptoCard : Claim7 := { stood := { row := numUndoesUptoRow, standIns := [], harness := (true, "dad90c8952c7df167fdd8e480552c7fe50a0ad55cc2b258674a0cbdd8a42e441"), looks := false }, kinds := [], alts := [], laidByText := true, laidKinds := [.data, .data, .data, .data, .data, .pinned], laidTests := true, laidLooks := .later }
def NumUndoesUptoCardSaid : Prop := Claim7.holds Tryd.pinned (.plain (OpenSpec.upto numUndoesSpec)) numUndoesUptoCard

/-- THE SECOND FORM's CARD OF 'thimblelaw01.NumFloors'. -/
def numFloorsUptoCard : Claim7 := { stood := { row := numFloorsUptoRow, standIns := [], harness := (true, "dad90c8952c7df167fdd8e480552c7fe50a0ad55cc2b258674a0cbdd8a42e441"), looks := false }, kinds := [], alts := [], laidByText := true, laidKinds := [.data, .data, .data, .data, .data, .pinned], laidTests := true, laidLooks := .later }
def NumFloorsUptoCardSaid : Prop := Claim7.holds Tryd.pinned (.plain (OpenSpec.upto numFloorsSpec)) numFloorsUptoCard

/-- THE SECOND FORM's CARD OF 'thimblelaw01.NumMultiplies'. -/
def numMultipliesUptoCard : Claim7 := { stood := { row := numMultipliesUptoRow, standIns := [], harness := (true, "dad90c8952c7df167fdd8e480552c7fe50a0ad55cc2b258674a0cbdd8a42e441"), looks := false }, kinds := [], alts := [], laidByText := true, laidKinds := [.data, .data, .data, .data, .data, .pinned], laidTests := true, laidLooks := .later }
def NumMultipliesUptoCardSaid : Prop := Claim7.holds Tryd.pinned (.plain (OpenSpec.upto numMultipliesSpec)) numMultipliesUptoCard

/-- THE SECOND FORM's CARD OF 'thimblelaw01.NumAdds'. -/
def numAddsUptoCard : Claim7 := { stood := { row := numAddsUptoRow, standIns := [], harness := (true, "dad90c8952c7df167fdd8e480552c7fe50a0ad55cc2b258674a0cbdd8a42e441"), looks := false }, kinds := [], alts := [], laidByText := true, laidKinds := [.data, .data, .data, .data, .data, .pinned], laidTests := true, laidLooks := .later }
def NumAddsUptoCardSaid : Prop := Claim7.holds Tryd.pinned (.plain (OpenSpec.upto numAddsSpec)) numAddsUptoCard

/-- THE SECOND FORM's CARD OF 'thimblelaw01.NumOrders'. -/
def numOrdersUptoCard : Claim7 := { stood := { row := numOrdersUptoRow, standIns := [], harness := (true, "dad90c8952c7df167fdd8e480552c7fe50a0ad55cc2b258674a0cbdd8a42e441"), looks := false }, kinds := [], alts := [], laidByText := true, laidKinds := [.data, .data, .data, .data, .data, .pinned], laidTests := true, laidLooks := .later }
def NumOrdersUptoCardSaid : Prop := Claim7.holds Tryd.pinned (.plain (OpenSpec.upto numOrdersSpec)) numOrdersUptoCard

/-- THE SECOND FORM's CARD OF 'thimblelaw06.ReadCuts'. -/
def readCutsUptoCard : Claim7 := { stood := { row := readCutsUptoRow, standIns := [], harness := (true, "dad90c8952c7df167fdd8e480552c7fe50a0ad55cc2b258674a0cbdd8a42e441"), looks := false }, kinds := [], alts := [], laidByText := true, laidKinds := [.data, .data, .pinned], laidTests := true, laidLooks := .later }
def ReadCutsUptoCardSaid : Prop := Claim7.holds Tryd.pinned (.plain (OpenSpec.upto readCutsSpec)) readCutsUptoCard

/-- THE SECOND FORM's CARD OF 'thimblelaw06.ReadBlanks'. -/
def readBlanksUptoCard : Claim7 := { stood := { row := readBlanksUptoRow, standIns := [], harness := (true, "dad90c8952c7df167fdd8e480552c7fe50a0ad55cc2b258674a0cbdd8a42e441"), looks := false }, kinds := [], alts := [], laidByText := true, laidKinds := [.data, .data, .pinned], laidTests := true, laidLooks := .later }
def ReadBlanksUptoCardSaid : Prop := Claim7.holds Tryd.pinned (.plain (OpenSpec.upto readBlanksSpec)) readBlanksUptoCard
end Rows
end Go.Proofs.YtljemfajjeoecaaDoor
