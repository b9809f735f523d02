/- The contracts of package num's sign, compare, wrong, common, digits. Conditions: Glob (the table of tens). -/
import Derived.Test.YtohhnkmfgfgpjaaGreatDoorNumA
import Derived.Test.YtohhnkmfgfgpjaaGreatDoorNumMath
namespace Go.Proofs.YtohhnkmfgfgpjaaGreatDoor
open Go Go.RowKit Go.Proofs Th
attribute [local go_sem] Above.cell Above.frozen

theorem ret_i64 {a b : Int} (h : a = b) : Ending.returned (.int .i64 a) = .returned (.int .i64 b) := by rw [h]





















def cmp3 (a b : Int) : Int := if a < b then -1 else if b < a then 1 else 0














































theorem drop_at (s : ByteArray) (k : Nat) (h : k < s.size) : s.data.toList.drop k = s[k] :: s.data.toList.drop (k + 1) := by
  rw [List.drop_eq_getElem_cons (by simpa using h)]; rfl

theorem num_digits (s : ByteArray) (hs : s.size ≤ 9223372036854775807) (w : World) : Calls Tryz.prog 70 #[.string s] w fun r w' => r = .returned (.int .i64 (nDig s.data.toList)) ∧ Below w.heap.size w w' := by
  go_enter Tryz.func70, Tryz.ntmps70
  go_wp2
  go_loop [3] (fun i => ∃ k : Nat, k ≤ s.size ∧ nDig s.data.toList = k + nDig (s.data.toList.drop k) ∧ i = .int .i64 k) (fun i => s.size - (intOf i).toNat)
  case atStart => exact ⟨0, Nat.zero_le _, by simp, rfl⟩
  case round =>
    obtain ⟨k, hk, hn, rfl⟩ := hrel
    have HN := Lib.hid hn
    clear hn
    by_cases hlt : k < s.size
    · have hd := drop_at s k hlt
      by_cases h1 : 48 ≤ s[k].toNat
      · by_cases h2 : s[k].toNat ≤ 57
        · have HS := Lib.hid (show nDig (s.data.toList.drop k) = nDig (s.data.toList.drop (k + 1)) + 1 by rw [hd, nDig, if_pos ⟨h1, h2⟩])
          clear hd
          go_wp2
          go_round
          case rel => exact ⟨k + 1, by omega, by rw [HN.out, HS.out]; omega, by go_num⟩
          case measure => simp [intOf]; omega
        · have HS := Lib.hid (show nDig (s.data.toList.drop k) = 0 by rw [hd, nDig, if_neg (by omega)])
          clear hd
          go_wp2
          go_ret
          exact ⟨ret_i64 (by rw [HN.out, HS.out]; simp), Below.refl _ _⟩
      · have HS := Lib.hid (show nDig (s.data.toList.drop k) = 0 by rw [hd, nDig, if_neg (by omega)])
        clear hd
        go_wp2
        go_ret
        exact ⟨ret_i64 (by rw [HN.out, HS.out]; simp), Below.refl _ _⟩
    · have hk' : k = s.size := by omega
      have HS := Lib.hid (show nDig (s.data.toList.drop k) = 0 by rw [List.drop_eq_nil_of_le (by simp; omega)]; rfl)
      go_wp2
      go_ret
      exact ⟨ret_i64 (by rw [HN.out, HS.out]; omega), Below.refl _ _⟩
end Go.Proofs.YtohhnkmfgfgpjaaGreatDoor
