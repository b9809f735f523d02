/- The library's contracts in one form: the result, and a world that differs by what was made. Conditions: the numbers are words of 64 bits. -/
import Derived.Test.YtohhnkmfgfgpjaaGreatDoorShelf
import Derived.Test.YtohhnkmfgfgpjaaGreatDoorNumMath
import Derived.Test.YtohhnkmfgfgpjaaGreatDoorBase
import Derived.Shelf.Spec.BitsCarry
import Derived.Lib.Hide
namespace Go.Proofs.YtohhnkmfgfgpjaaGreatDoor
open Go Go.RowKit Go.Proofs Th

theorem mul64 (x y : Int) (x0 : 0 ≤ x) (x1 : x < 18446744073709551616) (y0 : 0 ≤ y) (y1 : y < 18446744073709551616) (w : World) : Calls Tryz.prog 124 #[.int .u64 x, .int .u64 y] w fun r w' =>
    r = .returned (.tuple #[.int .u64 (mhi x y), .int .u64 (mlo x y)]) ∧ Below w.heap.size w w' := by
  obtain ⟨x, rfl⟩ := Int.eq_ofNat_of_zero_le x0
  obtain ⟨y, rfl⟩ := Int.eq_ofNat_of_zero_le y0
  have := calls_same (Tryz.bits_Mul64 x y (by omega) (by omega) w)
  refine this.mono ?_
  rintro e w' ⟨rfl, hb⟩
  refine ⟨?_, hb⟩
  unfold mhi mlo
  congr 5
























theorem hasPrefix (s p : ByteArray) (w : World) : Calls Tryz.prog 69 #[.string s, .string p] w fun r w' => r = .returned (.bool (Lib.hasPrefix s.data.toList p.data.toList)) ∧ Below w.heap.size w w' :=
  calls_same (Tryz.strings_HasPrefix s p w)
theorem trimLeft (s : ByteArray) (w : World) : Calls Tryz.prog 73 #[.string s, .string ⟨#[48]⟩] w fun r w' => r = .returned (.string ⟨(Lib.trimLeftB s.data.toList 48).toArray⟩) ∧ Below w.heap.size w w' :=
  calls_same (Tryz.strings_TrimLeft_one s 48 (by decide) w)
theorem trimRight (s : ByteArray) (hs : s.size ≤ 9223372036854775807) (w : World) : Calls Tryz.prog 74 #[.string s, .string ⟨#[48]⟩] w fun r w' => r = .returned (.string ⟨(Lib.trimRightB s.data.toList 48).toArray⟩) ∧ Below w.heap.size w w' :=
  calls_same (Tryz.strings_TrimRight_one s 48 (by decide) w hs)


end Go.Proofs.YtohhnkmfgfgpjaaGreatDoor
