/- The contracts of num.wrong, Sub, Mul. Conditions: Glob; the numbers are of int64 and int. -/
import Derived.Test.YtohhnkmfgfgpjaaGreatDoorMade
import Derived.Test.YtohhnkmfgfgpjaaGreatDoorLib
import Derived.Test.YtohhnkmfgfgpjaaGreatDoorNumMath
namespace Go.Proofs.YtohhnkmfgfgpjaaGreatDoor
open Go Go.RowKit Go.Proofs Th
attribute [local go_sem] Above.cell Above.frozen

def wrongS (m1 e1 m2 e2 : Int) : Int := if (right m1 e1 && right m2 e2) = false then 10 else if m2 = 0 then 12 else 0

/-- a number of int64 and int -/
structure I64 (m : Int) : Prop where
  lo : -9223372036854775808 ≤ m
  hi : m ≤ 9223372036854775807

theorem zero_of_right {m e : Int} (h : right m e = true) : (m == 0 && e == 0) = (m == 0) := by
  by_cases hm : m = 0
  · subst hm; simp [right] at h; simp [h]
  · simp [hm]

















































end Go.Proofs.YtohhnkmfgfgpjaaGreatDoor
