/- Lemmas and contracts for the laws ReadParses, ReadBytes, part 22 of 50: RefPair. Conditions: those that each lemma names. -/
import Derived.Test.YtbngjlkmpdccjaaGreatDoorPack19
import Derived.Test.YtbngjlkmpdccjaaGreatDoorPack20
import Derived.Deep.OwnRows
import Derived.Laws.OwnMore
import Derived.Deep.RegionHeld3
namespace Go.Proofs.YtbngjlkmpdccjaaGreatDoor
open Go Go.RowKit Go.Proofs Th
end Go.Proofs.YtbngjlkmpdccjaaGreatDoor
namespace Go.Proofs.YtbngjlkmpdccjaaGreatDoor
open Go Go.RowKit Go.Proofs Th
attribute [local go_sem] Above.cell
end Go.Proofs.YtbngjlkmpdccjaaGreatDoor
namespace Go.Proofs.YtbngjlkmpdccjaaGreatDoor
open Go Go.RowKit Go.Proofs Th
theorem below_drew (W : World) : Below W.heap.size W W.drew := ⟨rfl, rfl, rfl, Nat.le_refl _, fun _ _ => rfl⟩
end Go.Proofs.YtbngjlkmpdccjaaGreatDoor
