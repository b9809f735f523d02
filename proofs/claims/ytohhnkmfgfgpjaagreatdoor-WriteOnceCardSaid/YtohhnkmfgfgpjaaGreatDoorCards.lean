/-
  DERIVED. GIVEN WITH THE SEED: THE CARDS: each row of YtohhnkmfgfgpjaaGreatDoorRows.lean that lists a variable, with what it lists TIED to the program's text (the seventh form; the later family's looks); each row that meets fmt, with fmt's text TOLD by the authors' own Lean function (tested against real Go, not proved from fmt's source: count such statements apart). THE CARD IS WHAT COUNTS. Prove the row's statement (the work); the ties are given (YtohhnkmfgfgpjaaGreatDoorTie.lean); close each card by the builder's one call (the guide's Derived/Test/ToyasCard.lean, 'card_holds'). Laid BY PROGRAM, IN A SANDBOX (cutbox-door.mjs). By AI agents, Wed Nov 11 2026. No macro, syntax, notation, axiom, sorry.
-/
import Derived.Test.YtohhnkmfgfgpjaaGreatDoorRows
import GoSem.ClaimSeven
namespace Go.Proofs.YtohhnkmfgfgpjaaGreatDoor
namespace Rows

/-- THE TIED CARD OF 'thimblelaw06.ReadParses'. -/
def readParsesCard : Claim7 := { stood := { row := readParsesRow, standIns := [], harness := (true, "9ca92b477f1ad4027a0b9ab0f5e8db818371021413f1254ceab981554c0a7765"), looks := false }, kinds := [], alts := [], laidByText := true, laidKinds := [.data, .data, .pinned], laidTests := true, laidLooks := .later }
def ReadParsesCardSaid : Prop := Claim7.holds Tryz.pinned (.plain (OpenSpec.ofChange readParsesSpec)) readParsesCard

/-- THE TIED CARD OF 'thimblelaw06.ReadBytes'. -/
def readBytesCard : Claim7 := { stood := { row := readBytesRow, standIns := [], harness := (true, "9ca92b477f1ad4027a0b9ab0f5e8db818371021413f1254ceab981554c0a7765"), looks := false }, kinds := [], alts := [], laidByText := true, laidKinds := [.data, .data, .pinned], laidTests := true, laidLooks := .later }
def ReadBytesCardSaid : Prop := Claim7.holds Tryz.pinned (.plain (OpenSpec.ofChange readBytesSpec)) readBytesCard

/-- THE TIED CARD OF 'thimblelaw07.WriteBack'. -/
def writeBackCard : Claim7 := { stood := { row := writeBackRow, standIns := [], harness := (true, "9ca92b477f1ad4027a0b9ab0f5e8db818371021413f1254ceab981554c0a7765"), looks := false }, kinds := [], alts := [], laidByText := true, laidKinds := [.data, .data, .data, .data, .data, .pinned], laidTests := true, laidLooks := .later }
def WriteBackCardSaid : Prop := Claim7.holds Tryz.pinned (.plain (OpenSpec.ofChange writeBackSpec)) writeBackCard

/-- THE TIED CARD OF 'thimblelaw07.WriteOnce'. -/
def writeOnceCard : Claim7 := { stood := { row := writeOnceRow, standIns := [], harness := (true, "9ca92b477f1ad4027a0b9ab0f5e8db818371021413f1254ceab981554c0a7765"), looks := false }, kinds := [], alts := [], laidByText := true, laidKinds := [.data, .data, .data, .data, .data, .pinned], laidTests := true, laidLooks := .later }
def WriteOnceCardSaid : Prop := Claim7.holds Tryz.pinned (.plain (OpenSpec.ofChange writeOnceSpec)) writeOnceCard

/-- THE SECOND FORM's CARD OF 'thimblelaw06.ReadParses'. -/
def readParsesUptoCard : Claim7 := { stood := { row := readParsesUptoRow, standIns := [], harness := (true, "9ca92b477f1ad4027a0b9ab0f5e8db818371021413f1254ceab981554c0a7765"), looks := false }, kinds := [], alts := [], laidByText := true, laidKinds := [.data, .data, .pinned], laidTests := true, laidLooks := .later }
def ReadParsesUptoCardSaid : Prop := Claim7.holds Tryz.pinned (.plain (OpenSpec.upto readParsesSpec)) readParsesUptoCard

/-- THE SECOND FORM's CARD OF 'thimblelaw06.ReadBytes'. -/
def readBytesUptoCard : Claim7 := { stood := { row := readBytesUptoRow, standIns := [], harness := (true, "9ca92b477f1ad4027a0b9ab0f5e8db818371021413f1254ceab981554c0a7765"), looks := false }, kinds := [], alts := [], laidByText := true, laidKinds := [.data, .data, .pinned], laidTests := true, laidLooks := .later }
def ReadBytesUptoCardSaid : Prop := Claim7.holds Tryz.pinned (.plain (OpenSpec.upto readBytesSpec)) readBytesUptoCard

/-- THE SECOND FORM's CARD OF 'thimblelaw07.WriteBack'. -/
def writeBackUptoCard : Claim7 := { stood := { row := writeBackUptoRow, standIns := [], harness := (true, "9ca92b477f1ad4027a0b9ab0f5e8db818371021413f1254ceab981554c0a7765"), looks := false }, kinds := [], alts := [], laidByText := true, laidKinds := [.data, .data, .data, .data, .data, .pinned], laidTests := true, laidLooks := .later }
def WriteBackUptoCardSaid : Prop := Claim7.holds Tryz.pinned (.plain (OpenSpec.upto writeBackSpec)) writeBackUptoCard

/-- THE SECOND FORM's CARD OF 'thimblelaw07.WriteOnce'. -/
def writeOnceUptoCard : Claim7 := { stood := { row := writeOnceUptoRow, standIns := [], harness := (true, "9ca92b477f1ad4027a0b9ab0f5e8db818371021413f1254ceab981554c0a7765"), looks := false }, kinds := [], alts := [], laidByText := true, laidKinds := [.data, .data, .data, .data, .data, .pinned], laidTests := true, laidLooks := .later }
def WriteOnceUptoCardSaid : Prop := Claim7.holds Tryz.pinned (.plain (OpenSpec.upto writeOnceSpec)) writeOnceUptoCard
end Rows
end Go.Proofs.YtohhnkmfgfgpjaaGreatDoor
