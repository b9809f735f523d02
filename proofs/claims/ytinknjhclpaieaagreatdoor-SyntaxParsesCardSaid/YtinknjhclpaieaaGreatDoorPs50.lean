/- Lemmas and contracts for the laws SyntaxParses, part 50 of 50: RowX. Conditions: those that each lemma names. -/
import Derived.Test.YtinknjhclpaieaaGreatDoorPs15
import Derived.Test.YtinknjhclpaieaaGreatDoorPs49
set_option maxRecDepth 100000
set_option maxHeartbeats 4000000
namespace Go.Proofs.YtinknjhclpaieaaGreatDoor
open Go Go.Deep Go.WideElems Go.ChangeShapes Go.WideShapes Go.ChangeAt Go.RowKit Go.Proofs Th
noncomputable def laidR : List (String × DataW Unit) := Rows.syntaxParsesRow.laid
theorem globR_of {W : World} (h : laidMetH Tryz.prog laidR W) : GlobV W := by
  have ht : Lib.TabIs Tryz.prog W "thimble/num.tens" .u64 tenTab :=
    Lib.tabIs_of_head (rest := []) gTens tTens Tryz.underlying128 Tryz.underlying38 u64Cells u64Cells20 (h.filter fun x => x.1 == "thimble/num.tens")
  have h3 : Lib.VarReads Tryz.prog W "unicode/utf8.first" Go.Pinned.utf8First := Lib.laidMet.reads (l := [("unicode/utf8.first", Go.Pinned.utf8First)]) (h.filter fun x => x.1 == "unicode/utf8.first") (.head _); have h4 : Lib.VarReads Tryz.prog W "unicode/utf8.acceptRanges" Rows.laid_unicode_utf8_acceptRanges := Lib.laidMet.reads (l := [("unicode/utf8.acceptRanges", Rows.laid_unicode_utf8_acceptRanges)]) (h.filter fun x => x.1 == "unicode/utf8.acceptRanges") (.head _); rw [first_same] at h3; rw [accept_same] at h4; refine ⟨⟨fun i hi => ?_⟩, utf8Tabs_of_readsT (U8Types.of260 Tryz.lays260) ⟨by kernel_rfl, by kernel_rfl, by kernel_rfl, by kernel_rfl, by kernel_rfl, by kernel_rfl, by kernel_rfl⟩ h3 h4⟩; rw [ht.cell gTens i hi]; congr 2
  revert i; decide
noncomputable def laidWorldR (os : Os) : World :=
  { World.holding Tryz.prog os ⟨#[], #[], []⟩ with heap := laidR.foldl lay (World.holding Tryz.prog os ⟨#[], #[], []⟩).heap }
theorem laid_metR (os : Os) : laidMet Tryz.prog laidR (laidWorldR os) :=
  laidMet_of_run3 8 (by kernel_rfl) (by kernel_rfl) (by kernel_rfl)
theorem globX_of {W : World} (h : W.ShapedOpen Tryz.prog) : GlobX W := Tryz.laysM143.s1_3 W h
end Go.Proofs.YtinknjhclpaieaaGreatDoor
