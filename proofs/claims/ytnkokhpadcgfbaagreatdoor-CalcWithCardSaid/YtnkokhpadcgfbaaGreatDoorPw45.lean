/- Lemmas and contracts for the laws CalcWith, part 45 of 50: RowM, LenV. Conditions: those that each lemma names. -/
import Derived.Test.YtnkokhpadcgfbaaGreatDoorPw25
import Derived.Test.YtnkokhpadcgfbaaGreatDoorPw43
import Derived.Test.YtnkokhpadcgfbaaGreatDoorPw35
namespace Go.Proofs.YtnkokhpadcgfbaaGreatDoor
open Go Go.RowKit Go.Proofs Th
theorem globM_of {W : World} (h : W.ShapedOpen Tryz.prog) : GlobM W := Tryz.laysM146.s1_3 W h
end Go.Proofs.YtnkokhpadcgfbaaGreatDoor
namespace Go.Proofs.YtnkokhpadcgfbaaGreatDoor
open Go Go.RowKit Go.Proofs Th
attribute [local go_sem] Above.cell
theorem whole_i64 (n : Nat) (hn : n < 1000000000000000000) : I64 (wholeN n).1 ∧ I64 (wholeN n).2 := by
  obtain ⟨m, k, _, h, h1, _, h2⟩ := whole_form n hn
  unfold wholeN
  rw [h]
  exact ⟨⟨by simp only; omega, by simp only; omega⟩, ⟨by simp only; omega, by simp only; omega⟩⟩
end Go.Proofs.YtnkokhpadcgfbaaGreatDoor
