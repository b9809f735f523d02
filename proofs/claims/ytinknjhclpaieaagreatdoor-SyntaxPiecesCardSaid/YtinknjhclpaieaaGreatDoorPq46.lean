/- Lemmas and contracts for the laws SyntaxPieces, part 46 of 48: LawSyn. Conditions: those that each lemma names. -/
import Derived.Test.YtinknjhclpaieaaGreatDoorPq45
set_option maxRecDepth 100000
set_option maxHeartbeats 4000000
namespace Go.Proofs.YtinknjhclpaieaaGreatDoor
open Go Go.RowKit Go.Proofs Th
theorem gx_old {W : World} (hg : Glob W) (hu : Utf W) (hm : GlobX W) : GX W (fun g _ => g < W.heap.size) := fun W' hc => by
  have hcell : ∀ {g o : Nat} {v : Value}, W.cell? ⟨g, o, none⟩ = some v → W'.cell? ⟨g, o, none⟩ = some v := fun {g o v} h => (hc g o (lt_of_cell h)).trans h
  obtain ⟨m, hm⟩ := hm; exact ⟨⟨fun i hi => hcell (hg.tens i hi)⟩, ⟨fun c h => hcell (hu.1 c h), fun i hi => ⟨hcell (hu.2 i hi).1, hcell (hu.2 i hi).2⟩⟩, m, hcell hm⟩
end Go.Proofs.YtinknjhclpaieaaGreatDoor
