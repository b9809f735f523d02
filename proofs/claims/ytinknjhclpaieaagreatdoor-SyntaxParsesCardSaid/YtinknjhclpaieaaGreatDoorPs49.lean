/- Lemmas and contracts for the laws SyntaxParses, part 49 of 50: LawSyn. Conditions: those that each lemma names. -/
import Derived.Test.YtinknjhclpaieaaGreatDoorPs48
set_option maxRecDepth 100000
set_option maxHeartbeats 4000000
namespace Go.Proofs.YtinknjhclpaieaaGreatDoor
open Go Go.RowKit Go.Proofs Th
theorem gx_old {W : World} (hg : Glob W) (hu : Utf W) (hm : GlobX W) : GX W (fun g _ => g < W.heap.size) := fun W' hc => by
  have hcell : ∀ {g o : Nat} {v : Value}, W.cell? ⟨g, o, none⟩ = some v → W'.cell? ⟨g, o, none⟩ = some v := fun {g o v} h => (hc g o (lt_of_cell h)).trans h
  obtain ⟨m, hm⟩ := hm; exact ⟨⟨fun i hi => hcell (hg.tens i hi)⟩, ⟨fun c h => hcell (hu.1 c h), fun i hi => ⟨hcell (hu.2 i hi).1, hcell (hu.2 i hi).2⟩⟩, m, hcell hm⟩
theorem calls_of_ac {f : FuncId} {xa : List IV} {us : List Value} {W : World} (h : ACalls Tryz.prog GX f none xa (.ret (bI true) [])) (hg : Glob W) (hu : Utf W) (hm : GlobX W) (hx : RepL W (fun g _ => g < W.heap.size) xa us) : Calls Tryz.prog f us.toArray W fun e W' => e = .returned (.bool true) ∧ Below W.heap.size W W' :=
  (h.2 W _ 0 us (gx_old hg hu hm) (fun _ _ h => h) (fun _ h => by cases h) hx).mono fun e W' ⟨⟨u, he, hr⟩, _, hb⟩ => by
    obtain rfl := rep_v hr; exact ⟨he, hb.os, hb.tape, hb.output, hb.size, fun k hk => hb.block k hk (fun h => by cases h.1)⟩
theorem law_parses_w (s : ByteArray) (W : World) (hg : Glob W) (hu : Utf W) (hm : GlobX W) : Calls Tryz.prog 3 #[.string s] W fun e W' => e = .returned (.bool true) ∧ Below W.heap.size W W' :=
  calls_of_ac (us := [.string s]) (law_parses s) hg hu hm (RepL.cons (.v _) (RepL.nil _ _))
end Go.Proofs.YtinknjhclpaieaaGreatDoor
