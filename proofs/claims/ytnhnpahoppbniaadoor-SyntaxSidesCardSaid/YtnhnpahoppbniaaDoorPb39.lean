/- Lemmas and contracts for the laws SyntaxBrackets, SyntaxJoins, SyntaxSides, part 39 of 44: RowX, SynL. Conditions: those that each lemma names. -/
import Derived.Test.YtnhnpahoppbniaaDoorPb10
import Derived.Test.YtnhnpahoppbniaaDoorPb38
namespace Go.Proofs.YtnhnpahoppbniaaDoor
open Go Go.Deep Go.WideElems Go.ChangeShapes Go.WideShapes Go.ChangeAt Go.RowKit Go.Proofs Th
noncomputable def laidR : List (String × DataW Unit) := Rows.syntaxBracketsRow.laid
set_option maxRecDepth 100000 in
theorem globR_of {W : World} (h : laidMetH Tryd.prog laidR W) : GlobV W := by
  have ht : Lib.TabIs Tryd.prog W "thimble/num.tens" .u64 tenTab :=
    Lib.tabIs_of_head (rest := []) gTens tTens Tryd.underlying110 Tryd.underlying37 u64Cells u64Cells20 (h.filter fun x => x.1 == "thimble/num.tens")
  have h3 : Lib.VarReads Tryd.prog W "unicode/utf8.first" Go.Pinned.utf8First := Lib.laidMet.reads (l := [("unicode/utf8.first", Go.Pinned.utf8First)]) (h.filter fun x => x.1 == "unicode/utf8.first") (.head _)
  have h4 : Lib.VarReads Tryd.prog W "unicode/utf8.acceptRanges" Rows.laid_unicode_utf8_acceptRanges := Lib.laidMet.reads (l := [("unicode/utf8.acceptRanges", Rows.laid_unicode_utf8_acceptRanges)]) (h.filter fun x => x.1 == "unicode/utf8.acceptRanges") (.head _)
  rw [first_same] at h3
  rw [accept_same] at h4
  refine ⟨⟨fun i hi => ?_⟩, utf8Tabs_of_readsT (U8Types.of260 Tryd.lays260) ⟨by kernel_rfl, by kernel_rfl, by kernel_rfl, by kernel_rfl, by kernel_rfl, by kernel_rfl, by kernel_rfl⟩ h3 h4⟩
  rw [ht.cell gTens i hi]
  congr 2
  revert i; decide
noncomputable def laidWorldR (os : Os) : World :=
  { World.holding Tryd.prog os ⟨#[], #[], []⟩ with heap := laidR.foldl lay (World.holding Tryd.prog os ⟨#[], #[], []⟩).heap }
set_option maxRecDepth 100000 in
theorem laid_metR (os : Os) : laidMet Tryd.prog laidR (laidWorldR os) :=
  laidMet_of_run3 8 (by kernel_rfl) (by kernel_rfl) (by kernel_rfl)
theorem globX_of {W : World} (h : W.ShapedOpen Tryd.prog) : GlobX W := Tryd.laysM143.s1_3 W h
end Go.Proofs.YtnhnpahoppbniaaDoor
namespace Go.Proofs.YtnhnpahoppbniaaDoor
open Go Go.RowKit Go.Proofs Th
theorem syn_go (f : Nat) : IHP GX f := syn_all gkX numX scanX partsX quoteX f
theorem whole_go (E : Env) (hE : EB E) (f : Nat) (r : PR NJ) (h : runP f E .whole 0 = some r) : ACalls Tryd.prog GX 12 (some (parIV E 0)) [] (resP E r) := syn_go f f (Nat.le_refl f) E hE .whole 0 r h
end Go.Proofs.YtnhnpahoppbniaaDoor
