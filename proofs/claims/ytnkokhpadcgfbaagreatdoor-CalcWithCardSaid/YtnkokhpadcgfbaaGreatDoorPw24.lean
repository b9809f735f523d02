/- Lemmas and contracts for the laws CalcWith, part 24 of 50: RefRem. Conditions: those that each lemma names. -/
import Derived.Test.YtnkokhpadcgfbaaGreatDoorPw20
import Derived.Test.YtnkokhpadcgfbaaGreatDoorPw12
import Derived.Test.YtnkokhpadcgfbaaGreatDoorPw13
import Derived.Test.YtnkokhpadcgfbaaGreatDoorPw5
import Derived.Test.YtnkokhpadcgfbaaGreatDoorPw1
import Derived.Test.YtnkokhpadcgfbaaGreatDoorPw9
import Derived.StillTail
namespace Go.Proofs.YtnkokhpadcgfbaaGreatDoor
open Go Go.RowKit Go.Proofs Th
attribute [local go_sem] Above.cell
theorem nDigits_digs (n : Nat) (h : n ≠ 0) : (digs n).length = Lib.nDigits n := by
  induction n using Nat.strongRecOn with
  | _ n ih =>
    rw [digs_pos n h, List.length_append, List.length_singleton, Lib.nDigits]
    split
    · rename_i h10
      rw [show n / 10 = 0 by omega, digs_zero]; rfl
    · rename_i h10
      rw [ih (n / 10) (by omega) (by omega)]
end Go.Proofs.YtnkokhpadcgfbaaGreatDoor
