/- Lemmas and contracts. Conditions: those that each lemma names. -/
import Derived.Test.YtakncilicoefdaaGreatDoorPz4
set_option maxRecDepth 100000
set_option maxHeartbeats 4000000
namespace Go.Proofs.YtakncilicoefdaaGreatDoor
open Go Go.RowKit Go.Proofs Th
attribute [local go_sem] Above.cell
theorem MB (x y : Int) (hx₀ : 0 ≤ x) (hx : x % 16 = 0) (hx₁ : x < 2147483648) (h₀ : 0 ≤ y) (h₁ : y < 16) : bits .or .i32 x y = x + y :=
 bits_join .i32 31 (by decide) wraps_i32 4 x y hx₀ hx hx₁ h₀ h₁ (by omega)
def Hz : Option Nat → Value
 | some x => .tuple #[.int .i32 x, .bool true]
 | none => .tuple #[.int .i32 0, .bool false]
theorem LD (s : ByteArray) (hs : s.size ≤ 9223372036854775000) (w : World) : Calls Tryz.prog 182 #[.string s] w fun r w' => r = .returned (Hz (CY s.data.toList)) ∧ w' = w := by
 by_cases h4 : s.size < 4
 ·have HE := Keep.mk (show CY s.data.toList = none from Ho 4 _ 0 (by rw [Ai]; exact h4))
  go_enter Tryz.func182, Tryz.ntmps182
  go_wp2
  go_ret2
  exact ⟨by rw [HE.out]; rfl, rfl⟩
 go_enter Tryz.func182, Tryz.ntmps182
 go_wp2_with fail
 go_loopg [4, 10] 4 (fun gk r i wr => ∃ (j x : Nat), j + gk = 4 ∧ i = .int .i64 j ∧ r = .int .i32 x ∧ x < 16 ^ j ∧ Keep (CY s.data.toList = Ex gk (s.data.toList.drop j) x) ∧ wr = w)
 case atStart => exact ⟨0, 0, by omega, rfl, rfl, by decide, ⟨rfl⟩, rfl⟩
 case round =>
  obtain ⟨j, x, hj, rfl, rfl, hx, HV, rfl⟩ := hrel; by_cases hlt : j < 4
  ·have hgk : gk ≠ 0 := by omega
   obtain ⟨g2, rfl⟩ : ∃ g2, gk = g2 + 1 := ⟨gk - 1, by omega⟩
   have hjs : j < s.size := by omega
   have hx4 : x < 65536 := Nat.lt_of_lt_of_le hx (Nat.le_trans (Nat.pow_le_pow_right (by omega) (show j ≤ 4 by omega)) (by decide)); have hx3 : x < 4096 := Nat.lt_of_lt_of_le hx (Nat.le_trans (Nat.pow_le_pow_right (by omega) (show j ≤ 3 by omega)) (by decide)); have HS := Keep.mk (RW g2 s.data.toList j x (by rw [Ai]; exact hjs)); rw [← HV.out] at HS; have hc : s.data.toList[j]'(by rw [Ai]; exact hjs) = s[j] := rfl; rw [hc] at HS; have hcl := s[j].toNat_lt; have hcx : ∃ c, s[j] = c := ⟨_, rfl⟩
   obtain ⟨c, hcx⟩ := hcx; rw [hcx] at HS hcl; clear hc HV; by_cases hd : 48 ≤ c.toNat ∧ c.toNat ≤ 57
   ·have HH := Keep.mk (show EQ c = some (c.toNat - 48) by unfold EQ; rw [if_pos hd])
    have HN := Keep.mk (show CY s.data.toList = Ex g2 (s.data.toList.drop (j + 1)) (x * 16 + (c.toNat - 48)) by rw [HS.out, HH.out]); have HO := MB ((x : Int) * 16) ((c.toNat : Int) - 48) (by omega) (by omega) (by omega) (by omega) (by omega); obtain ⟨d1, d2⟩ := hd; clear HH HS; go_wp2
    go_roundg g2
    case rel => exact ⟨j + 1, x * 16 + (c.toNat - 48), by omega, by go_num, by first | go_num | (congr 1; omega), by rw [Nat.pow_succ]; omega, HN, rfl⟩
    case measure => omega
   by_cases hd2 : 97 ≤ c.toNat ∧ c.toNat ≤ 102
   ·have HH := Keep.mk (show EQ c = some (c.toNat - 87) by unfold EQ; rw [if_neg hd, if_pos hd2])
    have HN := Keep.mk (show CY s.data.toList = Ex g2 (s.data.toList.drop (j + 1)) (x * 16 + (c.toNat - 87)) by rw [HS.out, HH.out]); have HO := MB ((x : Int) * 16) ((c.toNat : Int) - 97 + 10) (by omega) (by omega) (by omega) (by omega) (by omega); obtain ⟨d1, d2⟩ := hd2; clear hd; clear HH HS; go_wp2
    go_roundg g2
    case rel => exact ⟨j + 1, x * 16 + (c.toNat - 87), by omega, by go_num, by first | go_num | (congr 1; omega), by rw [Nat.pow_succ]; omega, HN, rfl⟩
    case measure => omega
   by_cases hd3 : 65 ≤ c.toNat ∧ c.toNat ≤ 70
   ·have HH := Keep.mk (show EQ c = some (c.toNat - 55) by unfold EQ; rw [if_neg hd, if_neg hd2, if_pos hd3])
    have HN := Keep.mk (show CY s.data.toList = Ex g2 (s.data.toList.drop (j + 1)) (x * 16 + (c.toNat - 55)) by rw [HS.out, HH.out]); have HO := MB ((x : Int) * 16) ((c.toNat : Int) - 65 + 10) (by omega) (by omega) (by omega) (by omega) (by omega); obtain ⟨d1, d2⟩ := hd3; clear hd hd2; clear HH HS; go_wp2
    go_roundg g2
    case rel => exact ⟨j + 1, x * 16 + (c.toNat - 55), by omega, by go_num, by first | go_num | (congr 1; omega), by rw [Nat.pow_succ]; omega, HN, rfl⟩
    case measure => omega
   have HN := Keep.mk (show CY s.data.toList = none by rw [HS.out]; unfold EQ; rw [if_neg hd, if_neg hd2, if_neg hd3]); clear HS; have hcs : c.toNat < 48 ∨ (57 < c.toNat ∧ c.toNat < 65) ∨ (70 < c.toNat ∧ c.toNat < 97) ∨ 102 < c.toNat := by omega
   clear hd hd2 hd3; rcases hcs with h | ⟨h, h'⟩ | ⟨h, h'⟩ | h
   all_goals
    go_wp2
    go_ret2
    exact ⟨by rw [HN.out]; rfl, rfl⟩
  obtain rfl : gk = 0 := by omega
  go_wp2
  go_ret2
  exact ⟨by rw [HV.out]; rfl, rfl⟩
def Ji : Option (Nat × Nat) → Value
 | some p => .tuple #[.int .i32 p.1, .int .i64 p.2, .bool true]
 | none => .tuple #[.int .i32 0, .int .i64 0, .bool false]
theorem Nd (s : ByteArray) (i : Nat) (h : i < s.size) : s.data.toList.getD i 0 = s[i] := by
 rw [List.getD_eq_getElem?_getD, List.getElem?_eq_getElem (by simpa using h)]; rfl
theorem Td (s : ByteArray) (i : Nat) (h : s.size ≤ i) : s.data.toList.getD i 0 = 0 := by
 rw [List.getD_eq_getElem?_getD, List.getElem?_eq_none (by simpa using h)]; rfl
theorem Ck {c : UInt8} {n : Nat} (hn : n < 256) : (c = UInt8.ofNat n) ↔ c.toNat = n := by
 constructor
 ·rintro rfl; simp; omega
 intro h; rw [← h]; simp
theorem Ob (s : ByteArray) (hs : s.size ≤ 9223372036854775000) (w : World) : Calls Tryz.prog 176 #[.string s] w fun r w' => r = .returned (Ji (DJ s.data.toList)) ∧ w' = w := by
 have HF := Keep.mk (LD s hs w); have HU := Keep.mk (show DJ s.data.toList = match CY s.data.toList with
 | none => none
 | some a => if 56320 ≤ a ∧ a < 57344 then none else if a < 55296 ∨ 57344 ≤ a then some (a, 4)
  else if s.data.toList.getD 4 0 = 92 ∧ s.data.toList.getD 5 0 = 117 then (match CY (s.data.toList.drop 6) with
   | none => none
   | some b => if b < 56320 ∨ 57344 ≤ b then none else some (65536 + (a - 55296) * 1024 + (b - 56320), 10)) else none from rfl)
 cases hf : CY s.data.toList with
 | none =>
  rw [hf] at HF HU; simp only [Hz] at HF; have HE := Keep.mk (show DJ s.data.toList = none from HU.out); go_enter Tryz.func176, Tryz.ntmps176
  go_wp2_with fail
  refine HF.out.mono ?_; rintro r w1 ⟨rfl, rfl⟩; go_wp2
  go_ret3
  exact ⟨by rw [HE.out]; rfl, rfl⟩
 | some a =>
  rw [hf] at HF HU; simp only [Hz] at HF; have ha := IL hf; simp only at HU; obtain ⟨z, hz⟩ : ∃ z : Int, (a : Int) = z := ⟨_, rfl⟩
  rw [hz] at HF; have hz0 : 0 ≤ z := by omega
  have hz1 : z < 65536 := by omega
  replace hz := Keep.mk hz; by_cases h1 : 56320 ≤ a ∧ a < 57344
  ·have HE := Keep.mk (show DJ s.data.toList = none by rw [HU.out, if_pos h1])
   have hzz := hz.out; have e1 : 56320 ≤ z := by omega
   have e2 : z < 57344 := by omega
   clear HU h1 hzz ha hf; go_enter Tryz.func176, Tryz.ntmps176
   go_wp2_with fail
   refine HF.out.mono ?_; rintro r w1 ⟨rfl, rfl⟩; go_wp2
   go_ret3
   exact ⟨by rw [HE.out]; rfl, rfl⟩
  by_cases h2 : a < 55296 ∨ 57344 ≤ a
  ·have HE := Keep.mk (show DJ s.data.toList = some (a, 4) by rw [HU.out, if_neg h1, if_pos h2])
   have hzz := hz.out; clear HU h1; rcases h2 with h2 | h2
   ·have e1 : z < 55296 := by omega
    clear h2 hzz ha hf; go_enter Tryz.func176, Tryz.ntmps176
    go_wp2_with fail
    refine HF.out.mono ?_; rintro r w1 ⟨rfl, rfl⟩; go_wp2
    go_ret3
    exact ⟨by rw [HE.out, ← hz.out]; rfl, rfl⟩
   have e1 : ¬ z < 55296 := by omega
   have e2 : ¬ z < 57344 := by omega
   have e3 : 57344 ≤ z := by omega
   have e4 : 56320 ≤ z := by omega
   clear h2 hzz ha hf; go_enter Tryz.func176, Tryz.ntmps176
   go_wp2_with fail
   refine HF.out.mono ?_; rintro r w1 ⟨rfl, rfl⟩; go_wp2
   go_ret3
   exact ⟨by rw [HE.out, ← hz.out]; rfl, rfl⟩
  have d1 : 55296 ≤ a := by omega
  have d2 : a < 56320 := by omega
  replace HU := Keep.mk (HU.out.trans (by rw [if_neg h1, if_neg h2])); clear h1 h2; have hzz := hz.out; have e1 : 55296 ≤ z := by omega
  have e2 : z < 56320 := by omega
  clear d1 d2 hzz ha hf; by_cases h6 : s.size < 6
  ·have HE := Keep.mk (show DJ s.data.toList = none by rw [HU.out, if_neg (by rw [Td s 5 (by omega)]; rintro ⟨_, h⟩; revert h; decide)])
   clear HU; go_enter Tryz.func176, Tryz.ntmps176
   go_wp2_with fail
   refine HF.out.mono ?_; rintro r w1 ⟨rfl, rfl⟩; go_wp2
   go_ret3
   exact ⟨by rw [HE.out]; rfl, rfl⟩
  have g4 := Nd s 4 (by omega); have g5 := Nd s 5 (by omega); rw [g4, g5] at HU; have HF2 := Keep.mk (LD (s.extract 6 s.size) (by simp; omega) w); rw [EK] at HF2; clear g4 g5; by_cases q4 : s[4].toNat = 92
  ·by_cases q5 : s[5].toNat = 117
   ·have hc : s[4] = 92 ∧ s[5] = 117 := ⟨(Ck (n := 92) (by omega)).2 q4, (Ck (n := 117) (by omega)).2 q5⟩
    replace HU := Keep.mk (HU.out.trans (by rw [if_pos hc])); clear hc; cases hg : CY (s.data.toList.drop 6) with
    | none =>
     rw [hg] at HU HF2; simp only [Hz] at HF2; have HE := Keep.mk (show DJ s.data.toList = none from HU.out); clear HU hg; go_enter Tryz.func176, Tryz.ntmps176
     go_wp2_with fail
     refine HF.out.mono ?_; rintro r w1 ⟨rfl, rfl⟩; go_wp2_with fail
     refine HF2.out.mono ?_; rintro r w1 ⟨rfl, rfl⟩; go_wp2
     go_ret3
     exact ⟨by rw [HE.out]; rfl, rfl⟩
    | some b =>
     have hb := IL hg; rw [hg] at HU HF2; simp only [Hz] at HF2; simp only at HU; clear hg; obtain ⟨y, hy⟩ : ∃ y : Int, (b : Int) = y := ⟨_, rfl⟩
     rw [hy] at HF2; have hy0 : 0 ≤ y := by omega
     have hy1 : y < 65536 := by omega
     by_cases h3 : b < 56320 ∨ 57344 ≤ b
     ·have HE := Keep.mk (show DJ s.data.toList = none by rw [HU.out, if_pos h3])
      clear HU; rcases h3 with h3 | h3
      ·have e3 : y < 56320 := by omega
       clear h3 hy hb; go_enter Tryz.func176, Tryz.ntmps176
       go_wp2_with fail
       refine HF.out.mono ?_; rintro r w1 ⟨rfl, rfl⟩; go_wp2_with fail
       refine HF2.out.mono ?_; rintro r w1 ⟨rfl, rfl⟩; go_wp2
       go_ret3
       exact ⟨by rw [HE.out]; rfl, rfl⟩
      have e3 : ¬ y < 56320 := by omega
      have e4 : 57344 ≤ y := by omega
      clear h3 hy hb; go_enter Tryz.func176, Tryz.ntmps176
      go_wp2_with fail
      refine HF.out.mono ?_; rintro r w1 ⟨rfl, rfl⟩; go_wp2_with fail
      refine HF2.out.mono ?_; rintro r w1 ⟨rfl, rfl⟩; go_wp2
      go_ret3
      exact ⟨by rw [HE.out]; rfl, rfl⟩
     have HE := Keep.mk (show DJ s.data.toList = some (65536 + (a - 55296) * 1024 + (b - 56320), 10) by rw [HU.out, if_neg h3]); have e3 : 56320 ≤ y := by omega
     have e4 : y < 57344 := by omega
     replace hy := Keep.mk hy; clear HU h3 hb; go_enter Tryz.func176, Tryz.ntmps176
     go_wp2_with fail
     refine HF.out.mono ?_; rintro r w1 ⟨rfl, rfl⟩; go_wp2_with fail
     refine HF2.out.mono ?_; rintro r w1 ⟨rfl, rfl⟩; go_wp2
     go_ret3
     refine ⟨?_, rfl⟩; have q1 := hz.out; have q2 := hy.out; have q3 : 65536 + (z - 55296) * 1024 + y - 56320 = ((65536 + (a - 55296) * 1024 + (b - 56320) : Nat) : Int) := by omega
     rw [HE.out]; show Ending.returned (.tuple #[.int .i32 (65536 + (z - 55296) * 1024 + y - 56320), .int .i64 10, .bool true]) = _
     rw [q3]; rfl
   have hc : ¬ (s[4] = 92 ∧ s[5] = 117) := fun h => q5 ((Ck (n := 117) (by omega)).1 h.2)
   have HE := Keep.mk (show DJ s.data.toList = none by rw [HU.out, if_neg hc]); have q5' : ((s[5].toNat : Int) != 117) = true := by simp; omega
   clear HU hc; go_enter Tryz.func176, Tryz.ntmps176
   go_wp2_with fail
   refine HF.out.mono ?_; rintro r w1 ⟨rfl, rfl⟩; go_wp2
   go_ret3
   exact ⟨by rw [HE.out]; rfl, rfl⟩
  have hc : ¬ (s[4] = 92 ∧ s[5] = 117) := fun h => q4 ((Ck (n := 92) (by omega)).1 h.1)
  have HE := Keep.mk (show DJ s.data.toList = none by rw [HU.out, if_neg hc]); have q4' : ((s[4].toNat : Int) != 92) = true := by simp; omega
  clear HU hc; go_enter Tryz.func176, Tryz.ntmps176
  go_wp2_with fail
  refine HF.out.mono ?_; rintro r w1 ⟨rfl, rfl⟩; go_wp2
  go_ret3
  exact ⟨by rw [HE.out]; rfl, rfl⟩
theorem KC (s : ByteArray) (h : s.data.toList ≠ []) : s.toList.isEmpty = false := by
 rw [M5]; cases hx : s.data.toList with
 | nil => exact absurd hx h
 | cons _ _ => rfl
def Xy (o : Option (Nat × Nat)) (r : Ending) : Prop := match o with
 | some p => r = .returned (Ji (some p))
 | none => ∃ k : Nat, k ≤ 1 ∧ r = .returned (.tuple #[.int .i32 0, .int .i64 k, .bool false])
theorem Pi (s : ByteArray) (hs : s.size ≤ 9223372036854775000) (w : World) : Calls Tryz.prog 165 #[.string s] w fun r w' => Xy (CK s.data.toList) r ∧ w' = w := by
 by_cases h0 : s.size = 0
 ·obtain rfl : s = ⟨#[]⟩ := GH (show s.data.toList = [] from List.eq_nil_of_length_eq_zero (by rw [Ai]; exact h0))
  have HE := Keep.mk (show CK (⟨#[]⟩ : ByteArray).data.toList = none from rfl); go_enter Tryz.func165, Tryz.ntmps165
  go_wp2
  go_ret3
  exact ⟨by rw [HE.out]; exact ⟨0, by omega, rfl⟩, rfl⟩
 have h1 : 0 < s.size := by omega
 have hl : s.data.toList = s[0] :: s.data.toList.drop 1 := by
  have : 0 < s.data.toList.length := by rw [Ai]; exact h1
  have e := List.drop_eq_getElem_cons (l := s.data.toList) (i := 0) this; rw [List.drop_zero] at e; exact e
 have hem : s.toList.isEmpty = false := KC s (by rw [hl]; simp); have HU := Keep.mk (Ob (s.extract 1 s.size) (by simp; omega) w); rw [EK] at HU; clear h0; by_cases k34 : s[0].toNat = 34
 ·have HE := Keep.mk (show CK s.data.toList = some (34, 1) by rw [hl, (Ck (n := 34) (by omega)).2 k34]; rfl)
  clear hl HU; go_enter Tryz.func165, Tryz.ntmps165
  go_wp2
  go_ret3
  exact ⟨by rw [HE.out]; rfl, rfl⟩
 skip
 by_cases k92 : s[0].toNat = 92
 ·have HE := Keep.mk (show CK s.data.toList = some (92, 1) by rw [hl, (Ck (n := 92) (by omega)).2 k92]; rfl)
  clear hl HU; clear k34; go_enter Tryz.func165, Tryz.ntmps165
  go_wp2
  go_ret3
  exact ⟨by rw [HE.out]; rfl, rfl⟩
 skip
 by_cases k47 : s[0].toNat = 47
 ·have HE := Keep.mk (show CK s.data.toList = some (47, 1) by rw [hl, (Ck (n := 47) (by omega)).2 k47]; rfl)
  clear hl HU; clear k34; clear k92; go_enter Tryz.func165, Tryz.ntmps165
  go_wp2
  go_ret3
  exact ⟨by rw [HE.out]; rfl, rfl⟩
 skip
 by_cases k98 : s[0].toNat = 98
 ·have HE := Keep.mk (show CK s.data.toList = some (8, 1) by rw [hl, (Ck (n := 98) (by omega)).2 k98]; rfl)
  clear hl HU; clear k34; clear k92; clear k47; go_enter Tryz.func165, Tryz.ntmps165
  go_wp2
  go_ret3
  exact ⟨by rw [HE.out]; rfl, rfl⟩
 skip
 by_cases k102 : s[0].toNat = 102
 ·have HE := Keep.mk (show CK s.data.toList = some (12, 1) by rw [hl, (Ck (n := 102) (by omega)).2 k102]; rfl)
  clear hl HU; clear k34; clear k92; clear k47; clear k98; go_enter Tryz.func165, Tryz.ntmps165
  go_wp2
  go_ret3
  exact ⟨by rw [HE.out]; rfl, rfl⟩
 skip
 by_cases k110 : s[0].toNat = 110
 ·have HE := Keep.mk (show CK s.data.toList = some (10, 1) by rw [hl, (Ck (n := 110) (by omega)).2 k110]; rfl)
  clear hl HU; clear k34; clear k92; clear k47; clear k98; clear k102; go_enter Tryz.func165, Tryz.ntmps165
  go_wp2
  go_ret3
  exact ⟨by rw [HE.out]; rfl, rfl⟩
 skip
 by_cases k114 : s[0].toNat = 114
 ·have HE := Keep.mk (show CK s.data.toList = some (13, 1) by rw [hl, (Ck (n := 114) (by omega)).2 k114]; rfl)
  clear hl HU; clear k34; clear k92; clear k47; clear k98; clear k102; clear k110; go_enter Tryz.func165, Tryz.ntmps165
  go_wp2
  go_ret3
  exact ⟨by rw [HE.out]; rfl, rfl⟩
 skip
 by_cases k116 : s[0].toNat = 116
 ·have HE := Keep.mk (show CK s.data.toList = some (9, 1) by rw [hl, (Ck (n := 116) (by omega)).2 k116]; rfl)
  clear hl HU; clear k34; clear k92; clear k47; clear k98; clear k102; clear k110; clear k114; go_enter Tryz.func165, Tryz.ntmps165
  go_wp2
  go_ret3
  exact ⟨by rw [HE.out]; rfl, rfl⟩
 skip
 by_cases k117 : s[0].toNat = 117
 ·have HV := Keep.mk (show CK s.data.toList = match DJ (s.data.toList.drop 1) with | none => none | some (x, n) => some (x, n + 1) by rw [hl, (Ck (n := 117) (by omega)).2 k117]; rfl)
  clear hl; clear k34; clear k92; clear k47; clear k98; clear k102; clear k110; clear k114; clear k116; cases hu : DJ (s.data.toList.drop 1) with
  | none =>
   rw [hu] at HV HU; simp only [Ji] at HU; have HE := Keep.mk (show CK s.data.toList = none from HV.out); go_enter Tryz.func165, Tryz.ntmps165
   go_wp2_with fail
   refine HU.out.mono ?_; rintro r w1 ⟨rfl, rfl⟩; go_wp2
   go_ret3
   exact ⟨by rw [HE.out]; exact ⟨1, by omega, rfl⟩, rfl⟩
  | some p =>
   obtain ⟨x, n⟩ := p; have hok := Ri hu; have hn := hok.2.2; clear hok; rw [hu] at HV HU; simp only [Ji] at HU; have HE := Keep.mk (show CK s.data.toList = some (x, n + 1) from HV.out); clear HV hu; go_enter Tryz.func165, Tryz.ntmps165
   go_wp2_with fail
   refine HU.out.mono ?_; rintro r w1 ⟨rfl, rfl⟩; go_wp2
   go_ret3
   exact ⟨by rw [HE.out]; rfl, rfl⟩
 have HE := Keep.mk (show CK s.data.toList = none by
  rw [hl]; simp only [CK, show (34 : UInt8) = UInt8.ofNat 34 from rfl, show (92 : UInt8) = UInt8.ofNat 92 from rfl, show (47 : UInt8) = UInt8.ofNat 47 from rfl, show (98 : UInt8) = UInt8.ofNat 98 from rfl, show (102 : UInt8) = UInt8.ofNat 102 from rfl, show (110 : UInt8) = UInt8.ofNat 110 from rfl, show (114 : UInt8) = UInt8.ofNat 114 from rfl, show (116 : UInt8) = UInt8.ofNat 116 from rfl, show (117 : UInt8) = UInt8.ofNat 117 from rfl]; rw [if_neg (by rw [Ck (by omega), Ck (by omega), Ck (by omega)]; omega), if_neg (by rw [Ck (by omega)]; exact k98), if_neg (by rw [Ck (by omega)]; exact k102), if_neg (by rw [Ck (by omega)]; exact k110), if_neg (by rw [Ck (by omega)]; exact k114), if_neg (by rw [Ck (by omega)]; exact k116), if_neg (by rw [Ck (by omega)]; exact k117)])
 clear hl HU; have b34 : ((s[0].toNat : Int) == 34) = false := by simp; omega
 have b92 : ((s[0].toNat : Int) == 92) = false := by simp; omega
 have b47 : ((s[0].toNat : Int) == 47) = false := by simp; omega
 have b98 : ((s[0].toNat : Int) == 98) = false := by simp; omega
 have b102 : ((s[0].toNat : Int) == 102) = false := by simp; omega
 have b110 : ((s[0].toNat : Int) == 110) = false := by simp; omega
 have b114 : ((s[0].toNat : Int) == 114) = false := by simp; omega
 have b116 : ((s[0].toNat : Int) == 116) = false := by simp; omega
 have b117 : ((s[0].toNat : Int) == 117) = false := by simp; omega
 clear k34 k92 k47 k98 k102 k110 k114 k116 k117; go_enter Tryz.func165, Tryz.ntmps165
 go_wp2
 go_ret3
 exact ⟨by rw [HE.out]; exact ⟨0, by omega, rfl⟩, rfl⟩
def Hh (acc : List UInt8) (at_ : Nat) : Option (List UInt8 × Nat) → List UInt8 × Nat × Int
 | some p => (acc ++ p.1, at_ + p.2, 0)
 | none => ([], 0, 20)
theorem Qo (s : ByteArray) (h : 0 < s.size) (h34 : s[0].toNat = 34) : BA s.data.toList = Hh [] 1 (CB (s.data.toList.drop 1)) := by
 have hl : s.data.toList = s[0] :: s.data.toList.drop 1 := by
  have : 0 < s.data.toList.length := by rw [Ai]; exact h
  have e := List.drop_eq_getElem_cons (l := s.data.toList) (i := 0) this; rw [List.drop_zero] at e; exact e
 rw [hl]; simp only [BA]; rw [if_pos (show s[0] = 34 from (Ck (n := 34) (by omega)).2 h34)]; simp only [List.drop_succ_cons, List.drop_zero]; cases CB (s.data.toList.drop 1) with
 | none => rfl
 | some p => obtain ⟨t, k⟩ := p; simp [Hh, Nat.add_comm]
theorem Um (s : ByteArray) (h : s.size = 0 ∨ ∃ h : 0 < s.size, s[0].toNat ≠ 34) : BA s.data.toList = ([], 0, 20) := by
 rcases h with h | ⟨h, h34⟩
 ·have : s.data.toList = [] := List.eq_nil_of_length_eq_zero (by rw [Ai]; exact h)
  rw [this]; rfl
 have hl : s.data.toList = s[0] :: s.data.toList.drop 1 := by
  have : 0 < s.data.toList.length := by rw [Ai]; exact h
  have e := List.drop_eq_getElem_cons (l := s.data.toList) (i := 0) this; rw [List.drop_zero] at e; exact e
 rw [hl]; simp only [BA]; rw [if_neg (show ¬ s[0] = 34 from fun hh => h34 ((Ck (n := 34) (by omega)).1 hh))]
theorem SE (s : ByteArray) (hs : s.size ≤ 100000000) (w : World) (hu : Utf w) : Calls Tryz.prog 154 #[.string s] w fun r w' => ∃ b : ByteArray, r = .returned (.tuple #[.string b, .int .i64 (BA s.data.toList).2.1, .int .i64 (BA s.data.toList).2.2]) ∧ b.data.toList = (BA s.data.toList).1 ∧ Below w.heap.size w w' := by
 by_cases h0 : s.size = 0
 ·obtain rfl : s = ⟨#[]⟩ := GH (show s.data.toList = [] from List.eq_nil_of_length_eq_zero (by rw [Ai]; exact h0))
  go_enter Tryz.func154, Tryz.ntmps154
  go_wp2
  go_ret3
  exact ⟨⟨#[]⟩, rfl, rfl, Below.refl _ _⟩
 have h1 : 0 < s.size := by omega
 have hem : s.toList.isEmpty = false := KC s (fun h => by have := congrArg List.length h; rw [Ai] at this; have : s.size = 0 := this; omega); clear h0; by_cases h34 : s[0].toNat = 34
 ·have HQ := Keep.mk (Qo s h1 h34)
  go_enter Tryz.func154, Tryz.ntmps154
  go_wp2_with fail
  clear h34; have HU0 := Keep.mk hu; clear hu; go_loopg [5, 6] s.size (fun gk v i wr => ∃ (at_ : Nat) (acc : List UInt8), at_ + gk ≤ s.size + 1 ∧ s.size ≤ at_ + gk ∧ i = .int .i64 at_ ∧ acc.length ≤ 4 * at_ ∧ Keep (OwnB wr w.heap.size v acc) ∧ Keep (BA s.data.toList = Hh acc at_ (CB (s.data.toList.drop at_))) ∧ Keep (Below w.heap.size w wr))
  case atStart => exact ⟨1, [], by omega, by omega, rfl, by simp, ⟨OwnB.nil _ _⟩, HQ, ⟨Below.refl _ _⟩⟩
  case round =>
   clear HQ hem; obtain ⟨at_, acc, hg1, hg2, rfl, hal, HO, HQ, HB⟩ := hrel; have HU := Keep.mk (HU0.out.below HB.out); by_cases hlt : at_ < s.size
   ·have hcons : s.data.toList.drop at_ = s[at_] :: s.data.toList.drop (at_ + 1) := List.drop_eq_getElem_cons (l := s.data.toList) (i := at_) (by rw [Ai]; exact hlt)
    have hb := DF s[at_] (s.data.toList.drop (at_ + 1)); rw [← hcons] at hb; have hcl := s[at_].toNat_lt; have hwl := HB.out.size; by_cases k34 : s[at_].toNat = 34
    ·have HE := Keep.mk (show BA s.data.toList = (acc, at_ + 1, 0) by rw [HQ.out, hb, if_pos (show s[at_] = 34 from (Ck (n := 34) (by omega)).2 k34)]; simp [Hh])
     have hst := HO.out.string; obtain ⟨A, c, rfl⟩ := HO.out.form; clear hb hcons HQ hcl; go_wp2
     go_ret3
     exact ⟨⟨acc.toArray⟩, by rw [HE.out]; rfl, by rw [HE.out], HB.out⟩
    have n34 : ¬ s[at_] = 34 := fun h => k34 ((Ck (n := 34) (by omega)).1 h)
    rw [if_neg n34] at hb; clear n34; by_cases k32 : s[at_].toNat < 32
    ·have HE := Keep.mk (show BA s.data.toList = ([], 0, 20) by rw [HQ.out, hb, if_pos k32]; rfl)
     have b34 : ((s[at_].toNat : Int) == 34) = false := by simp; omega
     have b32 : (s[at_].toNat : Int) < 32 := by omega
     clear hb hcons HQ hcl k34 k32; go_wp2
     go_ret3
     exact ⟨⟨#[]⟩, by rw [HE.out]; rfl, by rw [HE.out], HB.out⟩
    rw [if_neg k32] at hb; by_cases k92 : s[at_].toNat = 92
    ·rw [if_pos (show s[at_] = 92 from (Ck (n := 92) (by omega)).2 k92)] at hb
     have HES := Keep.mk (Pi (s.extract (at_ + 1) s.size) (by simp; omega) wr); rw [EK] at HES; cases he : CK (s.data.toList.drop (at_ + 1)) with
     | none =>
      rw [he] at hb HES; have HE := Keep.mk (show BA s.data.toList = ([], 0, 20) by rw [HQ.out, hb]; rfl); clear hb hcons HQ hcl k34 k32; go_wp2_with fail
      refine HES.out.mono ?_; rintro r w1 ⟨⟨k, hk, rfl⟩, rfl⟩; go_wp2
      go_ret3
      exact ⟨⟨#[]⟩, by rw [HE.out]; rfl, by rw [HE.out], HB.out⟩
     | some p =>
      obtain ⟨x, n⟩ := p; have hok := Mw he; rw [List.length_drop, Ai] at hok; have h9 := F8 (x : Int); rw [he] at hb HES; simp only at hb; have HN := Keep.mk (show BA s.data.toList = Hh (acc ++ Lib.encodeRune x) (at_ + (n + 1)) (CB (s.data.toList.drop (at_ + (n + 1)))) by
       rw [HQ.out, hb, List.drop_drop, show at_ + 1 + n = at_ + (n + 1) by omega]; cases CB (s.data.toList.drop (at_ + (n + 1))) with
       | none => rfl
       | some q => simp [Hh, List.append_assoc]; omega)
      have hxb : x ≤ 1114111 := by omega
      have hn1 : 1 ≤ n := hok.2.1; have hn2 : n ≤ s.size - (at_ + 1) := hok.2.2.1; have hn3 : n ≤ 11 := hok.2.2.2; have HAR := Keep.mk (Ku w.heap.size _ acc x hxb wr HO.out (by omega) hwl); obtain ⟨A, c, rfl⟩ := HO.out.form; clear hb hcons HQ hcl k34 k32 hok he hxb; simp only [Xy, Ji] at HES; go_wp2_with fail
      refine HES.out.mono ?_; rintro r w1 ⟨rfl, rfl⟩; go_wp2_with fail
      refine HAR.out.mono ?_; rintro r w2 ⟨v2, rfl, hO2, hb2, _⟩; have HO2 := Keep.mk hO2; have HB2 := Keep.mk (HB.out.trans hb2); go_wp2
      go_roundg (gk - (n + 1))
      case rel => exact ⟨at_ + (n + 1), _, by omega, by omega, by go_num, by rw [List.length_append]; omega, HO2, HN, HB2⟩
      case measure => omega
    have n92 : ¬ s[at_] = 92 := fun h => k92 ((Ck (n := 92) (by omega)).1 h)
    rw [if_neg n92] at hb; have hne : s.data.toList.drop at_ ≠ [] := by rw [hcons]; simp
    have hle := Lib.decodeL_le (s.data.toList.drop at_) hne; have hwi := Lib.decodeL_width (s.data.toList.drop at_); rw [List.length_drop, Ai] at hle; have hdd : Lib.decodeGo (s.extract at_ s.size) = Lib.decodeL (s.data.toList.drop at_) := by
     unfold Lib.decodeGo Lib.decodeL; rw [if_neg (by simp; omega), ← EK]
    have HD := Keep.mk (fun (h : Utf wr) => Tryz.utf8_DecodeRuneInString (s.extract at_ s.size) wr h); rw [hdd] at HD; have b34 : ((s[at_].toNat : Int) == 34) = false := by simp; omega
    have b32 : ¬ (s[at_].toNat : Int) < 32 := by omega
    have b92 : ((s[at_].toNat : Int) == 92) = false := by simp; omega
    have hbd : CV (s.data.toList.drop at_) ↔ ((Lib.decodeL (s.data.toList.drop at_)).1 = 65533 ∧ (Lib.decodeL (s.data.toList.drop at_)).2 = 1) := Iff.rfl; generalize hq : Lib.decodeL (s.data.toList.drop at_) = q at *; obtain ⟨x, n⟩ := q; simp only at hle hwi hbd HD hb; clear hcons k34 k32 k92 n92 hdd hcl; obtain ⟨z, hz⟩ : ∃ z : Int, (x : Int) = z := ⟨_, rfl⟩
    rw [hz] at HD; by_cases hbad : CV (s.data.toList.drop at_)
    ·rw [if_pos hbad] at hb
     have HE := Keep.mk (show BA s.data.toList = ([], 0, 20) by rw [HQ.out, hb]; rfl); have hx := (hbd.1 hbad).1; have hn := (hbd.1 hbad).2; have hz2 : z = 65533 := by omega
     subst hz2 hn; clear hz hx hbd hbad hb hq HQ; go_wp2_with fail
     refine (HD.out HU.out).mono ?_; rintro r w1 ⟨rfl, hb1⟩; go_wp2
     go_ret3
     exact ⟨⟨#[]⟩, by rw [HE.out]; rfl, by rw [HE.out], up HB.out hb1⟩
    rw [if_neg hbad] at hb; have HN := Keep.mk (show BA s.data.toList = Hh (acc ++ (s.data.toList.drop at_).take n) (at_ + n) (CB (s.data.toList.drop (at_ + n))) by
     rw [HQ.out, hb, List.drop_drop]; cases CB (s.data.toList.drop (at_ + n)) with
     | none => rfl
     | some q => simp [Hh, List.append_assoc]; omega)
    have hcs : (z == 65533) = false ∨ ((z == 65533) = true ∧ ¬ (n : Int) < 2) := by
     by_cases hz3 : z = 65533
     ·right
      refine ⟨by simpa using hz3, ?_⟩; have : n ≠ 1 := fun h => hbad (hbd.2 ⟨by omega, h⟩)
      omega
     left; simpa using hz3
    have hmid : (s.extract at_ (at_ + n)).data.toList = (s.data.toList.drop at_).take n := by
     rw [ByteArray.data_extract, Array.toList_extract]; simp [List.extract_eq_take_drop]
    have hms : (s.extract at_ (at_ + n)).size = n := by simp; omega
    have hzi : -2147483648 ≤ z := by omega
    clear hz hbd hbad hb hq HQ hne; rcases hcs with b1 | ⟨b1, b2⟩
    ·skip
     go_wp2_with fail
     refine (HD.out HU.out).mono ?_; rintro r w1 ⟨rfl, hb1⟩; have HO1 := Keep.mk (HO.out.below hb1 (Nat.le_refl _)); have hwl1 : w.heap.size ≤ w1.heap.size := Nat.le_trans hwl hb1.size; have HB1 := Keep.mk (up HB.out hb1); clear hb1 HD; go_wp2_with (at_builtin; refine FU rfl (.tmp 40) (.tmp 46) rfl w.heap.size _ acc rfl HO1.out (s.extract at_ (at_ + n)) rfl (by omega) hwl1 ?_)
     intro v9 w9 hO9 hb9 _; try rw [hmid] at hO9
     have HO9 := Keep.mk hO9; have HB9 := Keep.mk (HB1.out.trans hb9); clear hO9 hb9 HO1 HB1; go_wp2
     go_roundg (gk - n)
     case rel => exact ⟨at_ + n, _, by omega, by omega, by go_num, by rw [List.length_append, List.length_take]; omega, HO9, HN, HB9⟩
     case measure => omega
    skip
    go_wp2_with fail
    refine (HD.out HU.out).mono ?_; rintro r w1 ⟨rfl, hb1⟩; have HO1 := Keep.mk (HO.out.below hb1 (Nat.le_refl _)); have hwl1 : w.heap.size ≤ w1.heap.size := Nat.le_trans hwl hb1.size; have HB1 := Keep.mk (up HB.out hb1); clear hb1 HD; go_wp2_with (at_builtin; refine FU rfl (.tmp 40) (.tmp 46) rfl w.heap.size _ acc rfl HO1.out (s.extract at_ (at_ + n)) rfl (by omega) hwl1 ?_)
    intro v9 w9 hO9 hb9 _; try rw [hmid] at hO9
    have HO9 := Keep.mk hO9; have HB9 := Keep.mk (HB1.out.trans hb9); clear hO9 hb9 HO1 HB1; go_wp2
    go_roundg (gk - n)
    case rel => exact ⟨at_ + n, _, by omega, by omega, by go_num, by rw [List.length_append, List.length_take]; omega, HO9, HN, HB9⟩
    case measure => omega
   have hge : s.size ≤ at_ := by omega
   have HE := Keep.mk (show BA s.data.toList = ([], 0, 20) by rw [HQ.out, List.drop_eq_nil_of_le (by rw [Ai]; exact hge)]; rfl); go_wp2
   go_ret3
   exact ⟨⟨#[]⟩, by rw [HE.out]; rfl, by rw [HE.out], HB.out⟩
 have HE := Keep.mk (Um s (Or.inr ⟨h1, h34⟩)); have b34 : ((s[0].toNat : Int) != 34) = true := by simp; omega
 clear h34; go_enter Tryz.func154, Tryz.ntmps154
 go_wp2
 go_ret3
 exact ⟨⟨#[]⟩, by rw [HE.out]; rfl, by rw [HE.out], Below.refl _ _⟩
end Go.Proofs.YtakncilicoefdaaGreatDoor
