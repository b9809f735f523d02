/- Lemmas and contracts for the laws CalcWith, part 11 of 50: Made, MakeMath. Conditions: those that each lemma names. -/
import Derived.Test.YtnkokhpadcgfbaaGreatDoorPw8
import Derived.Test.YtnkokhpadcgfbaaGreatDoorPw10
import Derived.Maps.Views
namespace Go.Proofs.YtnkokhpadcgfbaaGreatDoor
open Go Go.RowKit Go.Proofs Th
attribute [local go_sem] Above.cell
def numRes (p : (Int × Int) × Int) : Value := .tuple #[.agg #[.int .i64 p.1.1, .int .i64 p.1.2], .int .i64 p.2]
theorem num_res {p q : (Int × Int) × Int} (h : p = q) : Ending.returned (numRes p) = .returned (numRes q) := by rw [h]
end Go.Proofs.YtnkokhpadcgfbaaGreatDoor
namespace Th
open Go Go.Lib Go.Maps
section
variable {H : Type}
end
/-! keys, sorted, each once -/
def badL : List JV → Int
  | [] => 0
  | v :: r => if rightJ v ≠ 0 then rightJ v else badL r
end Th
