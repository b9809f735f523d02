/- The contracts of package num's sign, compare, wrong, common, digits. Conditions: Glob (the table of tens). -/
import Derived.Test.YtljemfajjeoecaaDoorNumA
import Derived.Test.YtljemfajjeoecaaDoorNumMath
namespace Go.Proofs.YtljemfajjeoecaaDoor
open Go Go.RowKit Go.Proofs Th
attribute [local go_sem] Above.cell Above.frozen

theorem ret_i64 {a b : Int} (h : a = b) : Ending.returned (.int .i64 a) = .returned (.int .i64 b) := by rw [h]

theorem num_sign (m e : Int) (w : World) : Calls Tryd.prog 72 #[.agg #[.int .i64 m, .int .i64 e]] w fun r w' => r = .returned (.int .i64 m.sign) ∧ Below w.heap.size w w' := by
  by_cases h1 : m < 0
  · have K := Lib.hid (Int.sign_eq_neg_one_of_neg h1)
    go_enter Tryd.func72, Tryd.ntmps72
    go_wp2
    go_ret
    exact ⟨ret_i64 K.out.symm, (Below.refl _ _).alloc (Nat.le_refl _) _⟩
  · by_cases h2 : 0 < m
    · have K := Lib.hid (Int.sign_eq_one_of_pos h2)
      go_enter Tryd.func72, Tryd.ntmps72
      go_wp2
      go_ret
      exact ⟨ret_i64 K.out.symm, (Below.refl _ _).alloc (Nat.le_refl _) _⟩
    · have h0 : m = 0 := by omega
      subst h0
      go_enter Tryd.func72, Tryd.ntmps72
      go_wp2
      go_ret
      exact ⟨rfl, (Below.refl _ _).alloc (Nat.le_refl _) _⟩

def cmp3 (a b : Int) : Int := if a < b then -1 else if b < a then 1 else 0

theorem num_compare (a b : Int) (w : World) : Calls Tryd.prog 82 #[.int .i64 a, .int .i64 b] w fun r w' => r = .returned (.int .i64 (cmp3 a b)) ∧ Below w.heap.size w w' := by
  by_cases h1 : a < b
  · have K := Lib.hid (show cmp3 a b = -1 from if_pos h1)
    go_enter Tryd.func82, Tryd.ntmps82
    go_wp2
    go_ret
    exact ⟨ret_i64 K.out.symm, Below.refl _ _⟩
  · by_cases h2 : b < a
    · have K := Lib.hid (show cmp3 a b = 1 from by unfold cmp3; rw [if_neg h1, if_pos h2])
      go_enter Tryd.func82, Tryd.ntmps82
      go_wp2
      go_ret
      exact ⟨ret_i64 K.out.symm, Below.refl _ _⟩
    · have K := Lib.hid (show cmp3 a b = 0 from by unfold cmp3; rw [if_neg h1, if_neg h2])
      go_enter Tryd.func82, Tryd.ntmps82
      go_wp2
      go_ret
      exact ⟨ret_i64 K.out.symm, Below.refl _ _⟩

theorem num_common (a b : Nat) (w : World) : Calls Tryd.prog 76 #[.int .u64 a, .int .u64 b] w fun r w' => r = .returned (.int .u64 (Nat.gcd a b)) ∧ Below w.heap.size w w' := by
  go_enter Tryd.func76, Tryd.ntmps76
  go_wp2
  go_loopw [0, 1] (fun v u wr => ∃ x y : Nat, Nat.gcd x y = Nat.gcd a b ∧ v = .int .u64 x ∧ u = .int .u64 y ∧ Below w.heap.size w wr) (fun _ u _ => (intOf u).toNat)
  case atStart => exact ⟨a, b, rfl, rfl, rfl, Below.refl _ _⟩
  case round =>
    obtain ⟨x, y, hxy, rfl, rfl, hb⟩ := hrel
    have HXY := Lib.hid hxy
    clear hxy
    by_cases hy : 0 < y
    · have hn : y ≠ 0 := by omega
      go_wp2
      refine wp_region_above (by kernel_rfl) (by kernel_rfl) ?_
      repeat (go_big_quiet_step (fail))
      refine wpQuiet_nil ?_
      rintro _ ⟨z, rfl⟩
      go_wp2
      go_roundw
      case rel => exact ⟨y, x % y, by rw [← HXY.out, Nat.gcd_comm y, Nat.gcd_comm x, Nat.gcd_rec y x], rfl, by go_num, hb.trans (z.property.mono hb.size)⟩
      case measure => simp [intOf]; have := Nat.mod_lt x hy; omega
    · go_wp2
      go_ret
      have h0 : y = 0 := by omega
      subst h0
      exact ⟨ret_u64 (by rw [← HXY.out]; simp), hb⟩

theorem drop_at (s : ByteArray) (k : Nat) (h : k < s.size) : s.data.toList.drop k = s[k] :: s.data.toList.drop (k + 1) := by
  rw [List.drop_eq_getElem_cons (by simpa using h)]; rfl

theorem num_digits (s : ByteArray) (hs : s.size ≤ 9223372036854775807) (w : World) : Calls Tryd.prog 54 #[.string s] w fun r w' => r = .returned (.int .i64 (nDig s.data.toList)) ∧ Below w.heap.size w w' := by
  go_enter Tryd.func54, Tryd.ntmps54
  go_wp2
  go_loop [3] (fun i => ∃ k : Nat, k ≤ s.size ∧ nDig s.data.toList = k + nDig (s.data.toList.drop k) ∧ i = .int .i64 k) (fun i => s.size - (intOf i).toNat)
  case atStart => exact ⟨0, Nat.zero_le _, by simp, rfl⟩
  case round =>
    obtain ⟨k, hk, hn, rfl⟩ := hrel
    have HN := Lib.hid hn
    clear hn
    by_cases hlt : k < s.size
    · have hd := drop_at s k hlt
      by_cases h1 : 48 ≤ s[k].toNat
      · by_cases h2 : s[k].toNat ≤ 57
        · have HS := Lib.hid (show nDig (s.data.toList.drop k) = nDig (s.data.toList.drop (k + 1)) + 1 by rw [hd, nDig, if_pos ⟨h1, h2⟩])
          clear hd
          go_wp2
          go_round
          case rel => exact ⟨k + 1, by omega, by rw [HN.out, HS.out]; omega, by go_num⟩
          case measure => simp [intOf]; omega
        · have HS := Lib.hid (show nDig (s.data.toList.drop k) = 0 by rw [hd, nDig, if_neg (by omega)])
          clear hd
          go_wp2
          go_ret
          exact ⟨ret_i64 (by rw [HN.out, HS.out]; simp), Below.refl _ _⟩
      · have HS := Lib.hid (show nDig (s.data.toList.drop k) = 0 by rw [hd, nDig, if_neg (by omega)])
        clear hd
        go_wp2
        go_ret
        exact ⟨ret_i64 (by rw [HN.out, HS.out]; simp), Below.refl _ _⟩
    · have hk' : k = s.size := by omega
      have HS := Lib.hid (show nDig (s.data.toList.drop k) = 0 by rw [List.drop_eq_nil_of_le (by simp; omega)]; rfl)
      go_wp2
      go_ret
      exact ⟨ret_i64 (by rw [HN.out, HS.out]; omega), Below.refl _ _⟩
end Go.Proofs.YtljemfajjeoecaaDoor
