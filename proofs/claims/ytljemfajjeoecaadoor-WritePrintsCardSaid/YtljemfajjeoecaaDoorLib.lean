/- The library's contracts in one form: the result, and a world that differs by what was made. Conditions: the numbers are words of 64 bits. -/
import Derived.Test.YtljemfajjeoecaaDoorShelf
import Derived.Test.YtljemfajjeoecaaDoorNumMath
import Derived.Test.YtljemfajjeoecaaDoorBase
import Derived.Shelf.Spec.BitsCarry
import Derived.Lib.Hide
namespace Go.Proofs.YtljemfajjeoecaaDoor
open Go Go.RowKit Go.Proofs Th

theorem mul64 (x y : Int) (x0 : 0 ≤ x) (x1 : x < 18446744073709551616) (y0 : 0 ≤ y) (y1 : y < 18446744073709551616) (w : World) : Calls Tryd.prog 71 #[.int .u64 x, .int .u64 y] w fun r w' =>
    r = .returned (.tuple #[.int .u64 (mhi x y), .int .u64 (mlo x y)]) ∧ Below w.heap.size w w' := by
  obtain ⟨x, rfl⟩ := Int.eq_ofNat_of_zero_le x0
  obtain ⟨y, rfl⟩ := Int.eq_ofNat_of_zero_le y0
  have := calls_same (Tryd.bits_Mul64 x y (by omega) (by omega) w)
  refine this.mono ?_
  rintro e w' ⟨rfl, hb⟩
  refine ⟨?_, hb⟩
  unfold mhi mlo
  congr 5

def renAdd : Go.Shelf.Ren := ⟨fun | 25 => 73 | n => n, fun | 22 => 61 | n => n, fun | n => n⟩
theorem laysAdd : Lays7.n25 Tryd.prog renAdd :=
  { mixed := by kernel_rfl, f25 := Tryd.func73.trans (congrArg some (by kernel_rfl)), t22 := Tryd.underlying61, a22 := Tryd.isAgg61, z22 := Tryd.sizeOf61, v22 := Tryd.zeroValue61, i22 := by kernel_rfl }
def renSub : Go.Shelf.Ren := ⟨fun | 26 => 74 | n => n, fun | 22 => 61 | n => n, fun | n => n⟩
theorem laysSub : Lays7.n26 Tryd.prog renSub :=
  { mixed := by kernel_rfl, f26 := Tryd.func74.trans (congrArg some (by kernel_rfl)), t22 := Tryd.underlying61, a22 := Tryd.isAgg61, z22 := Tryd.sizeOf61, v22 := Tryd.zeroValue61, i22 := by kernel_rfl }

theorem add64_0 (x y : Int) (hx : 0 ≤ x) (hy : 0 ≤ y) (w : World) : (callFunc 73 #[.int .u64 x, .int .u64 y, .int .u64 0]).run Tryd.prog w =
    .ok (.value (.tuple #[.int .u64 (alo x y), .int .u64 (ahi x y)])) w := by
  obtain ⟨x, rfl⟩ := Int.eq_ofNat_of_zero_le hx
  obtain ⟨y, rfl⟩ := Int.eq_ofNat_of_zero_le hy
  refine (Any7.bits_Add64 laysAdd x y 0 (by omega) w).trans ?_
  unfold alo ahi
  congr 5 <;> omega
theorem sub64_0 (x y : Int) (hx : 0 ≤ x) (hy : 0 ≤ y) (hy' : y < 18446744073709551616) (w : World) : (callFunc 74 #[.int .u64 x, .int .u64 y, .int .u64 0]).run Tryd.prog w =
    .ok (.value (.tuple #[.int .u64 (slo x y), .int .u64 (shi x y)])) w := by
  obtain ⟨x, rfl⟩ := Int.eq_ofNat_of_zero_le hx
  obtain ⟨y, rfl⟩ := Int.eq_ofNat_of_zero_le hy
  have e1 : (((x + 18446744073709551616 - y - 0) % 18446744073709551616 : Nat) : Int) = slo (x : Int) y := by unfold slo; omega
  have e2 : ((if x < y + 0 then 1 else 0 : Nat) : Int) = shi (x : Int) y := by unfold shi; split <;> split <;> omega
  rw [← e1, ← e2]
  exact Any7.bits_Sub64 laysSub x y 0 (by omega) w

theorem hasPrefix (s p : ByteArray) (w : World) : Calls Tryd.prog 53 #[.string s, .string p] w fun r w' => r = .returned (.bool (Lib.hasPrefix s.data.toList p.data.toList)) ∧ Below w.heap.size w w' :=
  calls_same (Tryd.strings_HasPrefix s p w)
theorem trimLeft (s : ByteArray) (w : World) : Calls Tryd.prog 57 #[.string s, .string ⟨#[48]⟩] w fun r w' => r = .returned (.string ⟨(Lib.trimLeftB s.data.toList 48).toArray⟩) ∧ Below w.heap.size w w' :=
  calls_same (Tryd.strings_TrimLeft_one s 48 (by decide) w)
theorem trimRight (s : ByteArray) (hs : s.size ≤ 9223372036854775807) (w : World) : Calls Tryd.prog 58 #[.string s, .string ⟨#[48]⟩] w fun r w' => r = .returned (.string ⟨(Lib.trimRightB s.data.toList 48).toArray⟩) ∧ Below w.heap.size w w' :=
  calls_same (Tryd.strings_TrimRight_one s 48 (by decide) w hs)
theorem compareStr (a b : ByteArray) (w : World) : Calls Tryd.prog 83 #[.string a, .string b] w fun r w' => r = .returned (.int .i64 (Lib.compareBytes a.data.toList b.data.toList)) ∧ Below w.heap.size w w' :=
  calls_same (Tryd.strings_Compare a b w)
end Go.Proofs.YtljemfajjeoecaaDoor
