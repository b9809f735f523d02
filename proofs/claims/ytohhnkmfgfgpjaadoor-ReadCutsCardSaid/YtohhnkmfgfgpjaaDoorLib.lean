/- The library's contracts in one form: the result, and a world that differs by what was made. Conditions: the numbers are words of 64 bits. -/
import Derived.Test.YtohhnkmfgfgpjaaDoorShelf
import Derived.Test.YtohhnkmfgfgpjaaDoorNumMath
import Derived.Test.YtohhnkmfgfgpjaaDoorBase
import Derived.Shelf.Spec.BitsCarry
import Derived.Lib.Hide
namespace Go.Proofs.YtohhnkmfgfgpjaaDoor
open Go Go.RowKit Go.Proofs Th

theorem hasPrefix (s p : ByteArray) (w : World) : Calls Tryd.prog 32 #[.string s, .string p] w fun r w' => r = .returned (.bool (Lib.hasPrefix s.data.toList p.data.toList)) ∧ Below w.heap.size w w' :=
  calls_same (Tryd.strings_HasPrefix s p w)
theorem trimLeft (s : ByteArray) (w : World) : Calls Tryd.prog 36 #[.string s, .string ⟨#[48]⟩] w fun r w' => r = .returned (.string ⟨(Lib.trimLeftB s.data.toList 48).toArray⟩) ∧ Below w.heap.size w w' :=
  calls_same (Tryd.strings_TrimLeft_one s 48 (by decide) w)
theorem trimRight (s : ByteArray) (hs : s.size ≤ 9223372036854775807) (w : World) : Calls Tryd.prog 37 #[.string s, .string ⟨#[48]⟩] w fun r w' => r = .returned (.string ⟨(Lib.trimRightB s.data.toList 48).toArray⟩) ∧ Below w.heap.size w w' :=
  calls_same (Tryd.strings_TrimRight_one s 48 (by decide) w hs)
end Go.Proofs.YtohhnkmfgfgpjaaDoor
