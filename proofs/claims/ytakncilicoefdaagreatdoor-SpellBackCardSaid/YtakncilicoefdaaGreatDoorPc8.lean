/- Lemmas and contracts. Conditions: those that each lemma names. -/
import Derived.Test.YtakncilicoefdaaGreatDoorPc4
import Derived.Test.YtakncilicoefdaaGreatDoorPc2
import Derived.Test.YtakncilicoefdaaGreatDoorPc5
import Derived.Test.YtakncilicoefdaaGreatDoorPc1
set_option maxRecDepth 100000
set_option maxHeartbeats 4000000
namespace Go.Proofs.YtakncilicoefdaaGreatDoor
open Go Go.RowKit Go.Proofs Th
attribute [local go_sem] Above.cell
theorem drop1 (s : ByteArray) : (s.extract 1 s.size).data.toList = s.data.toList.drop 1 := by
 rw [Lib.extract_data, List.take_of_length_le]; simp
theorem size_drop1 (s : ByteArray) : (s.extract 1 s.size).size = s.size - 1 := by simp
def expRes (p : Int × Bool) : Value := .tuple #[.int .i64 p.1, .bool p.2]
def expoN (l : List UInt8) : Int × Bool := match expoP l with | none => (0, false) | some (neg, u) => (sg neg (clampN u), true)
theorem ret_exp {p : Int × Bool} {a : Int} {c : Bool} (h : p = (a, c)) : Ending.returned (.tuple #[.int .i64 a, .bool c]) = .returned (expRes p) := by rw [h]; rfl
theorem hasP (c : UInt8) (l : List UInt8) (d : UInt8) : Lib.hasPrefix (c :: l) [d] = (d == c) := by simp [Lib.hasPrefix, List.isPrefixOf]
theorem hasP_nil (d : UInt8) : Lib.hasPrefix [] [d] = false := rfl
theorem exp_nil (w : World) : Calls Tryz.prog 158 #[.string ⟨#[]⟩] w fun r w' => r = .returned (expRes (0, true)) ∧ Below w.heap.size w w' := by
 go_enter Tryz.func158, Tryz.ntmps158
 go_wp2
 go_ret2
 exact ⟨rfl, Below.refl _ _⟩
theorem exp_other (s : ByteArray) (hs0 : 0 < s.size) (h1 : (s[0].toNat : Int) ≠ 101) (h2 : (s[0].toNat : Int) ≠ 69) (w : World) : Calls Tryz.prog 158 #[.string s] w fun r w' => r = .returned (expRes (0, false)) ∧ Below w.heap.size w w' := by
 have h1' : ((s[0].toNat : Int) != 101) = true := by simpa using h1
 have h2' : ((s[0].toNat : Int) != 69) = true := by simpa using h2
 have he : s.toList.isEmpty = false := by
  have : s.toList.length = s.size := by simp [ByteArray.toList_eq]
  cases hh : s.toList with
  | nil => rw [hh] at this; simp at this; omega
  | cons _ _ => rfl
 clear h1 h2; go_enter Tryz.func158, Tryz.ntmps158
 go_wp2
 go_ret2
 exact ⟨rfl, Below.refl _ _⟩
theorem isEmpty_of {s : ByteArray} (h : 0 < s.size) : s.toList.isEmpty = false := by
 have : s.toList.length = s.size := by simp [ByteArray.toList_eq]
 cases hh : s.toList with
 | nil => rw [hh] at this; simp at this; omega
 | cons _ _ => rfl
theorem all_dig (U : ByteArray) (h : nDig U.data.toList = U.size) (k : Nat) (hk : k < U.size) : 48 ≤ U[k].toNat ∧ U[k].toNat ≤ 57 :=
 nDig_get U.data.toList k (by simpa using hk) (by omega)
theorem clamp_take (U : ByteArray) (k : Nat) (hk : k < U.size) : clampN (U.data.toList.take (k + 1)) = min (clampN (U.data.toList.take k) * 10 + dg U[k]) 1099511627776 := by
 rw [List.take_succ_eq_append_getElem (by simpa using hk), clampN_snoc]; rfl
theorem exp_n0 (s : ByteArray) (hs : s.size ≤ 4611686018427387904) (hs0 : 0 < s.size) (h1 : ((s[0].toNat : Int) != 101) = false ∨ (((s[0].toNat : Int) != 101) = true ∧ ((s[0].toNat : Int) != 69) = false)) (T : ByteArray) (hT : s.extract 1 s.size = T) (U : ByteArray) (hU : T.extract 1 T.size = U) (hT1 : 0 < T.size) (hp : Lib.hasPrefix T.data.toList [45] = true) (hsz : U.size ≤ 9223372036854775807) (hn : ((nDig U.data.toList : Int) == 0) = true ∨ (((nDig U.data.toList : Int) == 0) = false ∧ (nDig U.data.toList : Int) < U.size)) (HX : Keep (expoN s.data.toList = (0, false))) (w : World) :
  Calls Tryz.prog 158 #[.string s] w fun r w' => r = .returned (expRes (expoN s.data.toList)) ∧ Below w.heap.size w w' := by
 have he := isEmpty_of hs0; have HT := Keep.mk hT; clear hT; have HU := Keep.mk hU; clear hU; have BB0 := Below.refl w.heap.size w; rcases h1 with h1 | ⟨h1, h2⟩
 all_goals
  rcases hn with hn | ⟨hn, hn2⟩
 all_goals
  go_enter Tryz.func158, Tryz.ntmps158
  go_wp2_with fail
  rw [HT.out]; refine (hasPrefix T ⟨#[45]⟩ _).mono ?_; rw [hp]; rintro r w1 ⟨rfl, hb1⟩; go_wp2_with fail
  rw [HU.out]; have BB := hb1; go_wp2_with fail
  refine (num_digits U hsz _).mono ?_; rintro r w9 ⟨rfl, hb9⟩; go_wp2
  go_ret2
  exact ⟨ret_exp HX.out, BB.trans (hb9.mono BB.size)⟩
theorem exp_n1 (s : ByteArray) (hs : s.size ≤ 4611686018427387904) (hs0 : 0 < s.size) (h1 : ((s[0].toNat : Int) != 101) = false ∨ (((s[0].toNat : Int) != 101) = true ∧ ((s[0].toNat : Int) != 69) = false)) (T : ByteArray) (hT : s.extract 1 s.size = T) (U : ByteArray) (hU : T.extract 1 T.size = U) (hT1 : 0 < T.size) (hp : Lib.hasPrefix T.data.toList [45] = true) (hsz : U.size ≤ 9223372036854775807) (hn : ((nDig U.data.toList : Int) == 0) = false) (hn2 : ¬ (nDig U.data.toList : Int) < U.size) (HD : Keep (∀ k (hk : k < U.size), 48 ≤ U[k].toNat ∧ U[k].toNat ≤ 57)) (HX : Keep (expoN s.data.toList = (sg true (clampN U.data.toList), true))) (w : World) :
  Calls Tryz.prog 158 #[.string s] w fun r w' => r = .returned (expRes (expoN s.data.toList)) ∧ Below w.heap.size w w' := by
 have he := isEmpty_of hs0; have HT := Keep.mk hT; clear hT; have HU := Keep.mk hU; clear hU; have BB0 := Below.refl w.heap.size w; rcases h1 with h1 | ⟨h1, h2⟩
 all_goals
  go_enter Tryz.func158, Tryz.ntmps158
  go_wp2_with fail
  rw [HT.out]; refine (hasPrefix T ⟨#[45]⟩ _).mono ?_; rw [hp]; rintro r w1 ⟨rfl, hb1⟩; go_wp2_with fail
  rw [HU.out]; have BB := hb1; go_wp2_with fail
  refine (num_digits U hsz _).mono ?_; rintro r w9 ⟨rfl, hb9⟩; go_wp2_with fail
  go_loop [6, 41] (fun e i => ∃ k : Nat, k ≤ U.size ∧ i = .int .i64 k ∧ e = .int .i64 (clampN (U.data.toList.take k))) (fun _ i => U.size - (intOf i).toNat)
  case atStart => exact ⟨0, Nat.zero_le _, rfl, rfl⟩
  case round =>
   obtain ⟨k, hk, rfl, rfl⟩ := hrel; have hcl := clampN_le (U.data.toList.take k); by_cases hlt : k < U.size
   ·have hdk := HD.out k hlt
    obtain ⟨hd1, hd2⟩ := hdk; have HS := Keep.mk (clamp_take U k hlt); go_wp2
    refine ⟨⟨k + 1, by omega, by go_num, ?_⟩, by simp [intOf]; omega⟩; rw [HS.out]; congr 1; unfold dg; omega
   have hk2 : k = U.size := by omega
   have HS := Keep.mk (show U.data.toList.take k = U.data.toList by rw [List.take_of_length_le]; simp; omega); clear hk2; go_wp2
   go_ret2
   exact ⟨ret_exp (by rw [HX.out, HS.out]; rfl), BB.trans (hb9.mono BB.size)⟩
theorem exp_p0 (s : ByteArray) (hs : s.size ≤ 4611686018427387904) (hs0 : 0 < s.size) (h1 : ((s[0].toNat : Int) != 101) = false ∨ (((s[0].toNat : Int) != 101) = true ∧ ((s[0].toNat : Int) != 69) = false)) (T : ByteArray) (hT : s.extract 1 s.size = T) (U : ByteArray) (hU : T.extract 1 T.size = U) (hT1 : 0 < T.size) (hp : Lib.hasPrefix T.data.toList [45] = false) (hp2 : Lib.hasPrefix T.data.toList [43] = true) (hsz : U.size ≤ 9223372036854775807) (hn : ((nDig U.data.toList : Int) == 0) = true ∨ (((nDig U.data.toList : Int) == 0) = false ∧ (nDig U.data.toList : Int) < U.size)) (HX : Keep (expoN s.data.toList = (0, false))) (w : World) :
  Calls Tryz.prog 158 #[.string s] w fun r w' => r = .returned (expRes (expoN s.data.toList)) ∧ Below w.heap.size w w' := by
 have he := isEmpty_of hs0; have HT := Keep.mk hT; clear hT; have HU := Keep.mk hU; clear hU; have BB0 := Below.refl w.heap.size w; rcases h1 with h1 | ⟨h1, h2⟩
 all_goals
  rcases hn with hn | ⟨hn, hn2⟩
 all_goals
  go_enter Tryz.func158, Tryz.ntmps158
  go_wp2_with fail
  rw [HT.out]; refine (hasPrefix T ⟨#[45]⟩ _).mono ?_; rw [hp]; rintro r w1 ⟨rfl, hb1⟩; go_wp2_with fail
  refine (hasPrefix T ⟨#[43]⟩ _).mono ?_; rw [hp2]; rintro r w2 ⟨rfl, hb2⟩; have BB := hb1.trans (hb2.mono hb1.size); go_wp2_with fail
  rw [HU.out]; go_wp2_with fail
  refine (num_digits U hsz _).mono ?_; rintro r w9 ⟨rfl, hb9⟩; go_wp2
  go_ret2
  exact ⟨ret_exp HX.out, BB.trans (hb9.mono BB.size)⟩
theorem exp_p1 (s : ByteArray) (hs : s.size ≤ 4611686018427387904) (hs0 : 0 < s.size) (h1 : ((s[0].toNat : Int) != 101) = false ∨ (((s[0].toNat : Int) != 101) = true ∧ ((s[0].toNat : Int) != 69) = false)) (T : ByteArray) (hT : s.extract 1 s.size = T) (U : ByteArray) (hU : T.extract 1 T.size = U) (hT1 : 0 < T.size) (hp : Lib.hasPrefix T.data.toList [45] = false) (hp2 : Lib.hasPrefix T.data.toList [43] = true) (hsz : U.size ≤ 9223372036854775807) (hn : ((nDig U.data.toList : Int) == 0) = false) (hn2 : ¬ (nDig U.data.toList : Int) < U.size) (HD : Keep (∀ k (hk : k < U.size), 48 ≤ U[k].toNat ∧ U[k].toNat ≤ 57)) (HX : Keep (expoN s.data.toList = (sg false (clampN U.data.toList), true))) (w : World) :
  Calls Tryz.prog 158 #[.string s] w fun r w' => r = .returned (expRes (expoN s.data.toList)) ∧ Below w.heap.size w w' := by
 have he := isEmpty_of hs0; have HT := Keep.mk hT; clear hT; have HU := Keep.mk hU; clear hU; have BB0 := Below.refl w.heap.size w; rcases h1 with h1 | ⟨h1, h2⟩
 all_goals
  go_enter Tryz.func158, Tryz.ntmps158
  go_wp2_with fail
  rw [HT.out]; refine (hasPrefix T ⟨#[45]⟩ _).mono ?_; rw [hp]; rintro r w1 ⟨rfl, hb1⟩; go_wp2_with fail
  refine (hasPrefix T ⟨#[43]⟩ _).mono ?_; rw [hp2]; rintro r w2 ⟨rfl, hb2⟩; have BB := hb1.trans (hb2.mono hb1.size); go_wp2_with fail
  rw [HU.out]; go_wp2_with fail
  refine (num_digits U hsz _).mono ?_; rintro r w9 ⟨rfl, hb9⟩; go_wp2_with fail
  go_loop [6, 41] (fun e i => ∃ k : Nat, k ≤ U.size ∧ i = .int .i64 k ∧ e = .int .i64 (clampN (U.data.toList.take k))) (fun _ i => U.size - (intOf i).toNat)
  case atStart => exact ⟨0, Nat.zero_le _, rfl, rfl⟩
  case round =>
   obtain ⟨k, hk, rfl, rfl⟩ := hrel; have hcl := clampN_le (U.data.toList.take k); by_cases hlt : k < U.size
   ·have hdk := HD.out k hlt
    obtain ⟨hd1, hd2⟩ := hdk; have HS := Keep.mk (clamp_take U k hlt); go_wp2
    refine ⟨⟨k + 1, by omega, by go_num, ?_⟩, by simp [intOf]; omega⟩; rw [HS.out]; congr 1; unfold dg; omega
   have hk2 : k = U.size := by omega
   have HS := Keep.mk (show U.data.toList.take k = U.data.toList by rw [List.take_of_length_le]; simp; omega); clear hk2; go_wp2
   go_ret2
   exact ⟨ret_exp (by rw [HX.out, HS.out]; rfl), BB.trans (hb9.mono BB.size)⟩
theorem exp_o0 (s : ByteArray) (hs : s.size ≤ 4611686018427387904) (hs0 : 0 < s.size) (h1 : ((s[0].toNat : Int) != 101) = false ∨ (((s[0].toNat : Int) != 101) = true ∧ ((s[0].toNat : Int) != 69) = false)) (T : ByteArray) (hT : s.extract 1 s.size = T) (hp : Lib.hasPrefix T.data.toList [45] = false) (hp2 : Lib.hasPrefix T.data.toList [43] = false) (hsz : T.size ≤ 9223372036854775807) (hn : ((nDig T.data.toList : Int) == 0) = true ∨ (((nDig T.data.toList : Int) == 0) = false ∧ (nDig T.data.toList : Int) < T.size)) (HX : Keep (expoN s.data.toList = (0, false))) (w : World) :
  Calls Tryz.prog 158 #[.string s] w fun r w' => r = .returned (expRes (expoN s.data.toList)) ∧ Below w.heap.size w w' := by
 have he := isEmpty_of hs0; have HT := Keep.mk hT; clear hT; have BB0 := Below.refl w.heap.size w; rcases h1 with h1 | ⟨h1, h2⟩
 all_goals
  rcases hn with hn | ⟨hn, hn2⟩
 all_goals
  go_enter Tryz.func158, Tryz.ntmps158
  go_wp2_with fail
  rw [HT.out]; refine (hasPrefix T ⟨#[45]⟩ _).mono ?_; rw [hp]; rintro r w1 ⟨rfl, hb1⟩; go_wp2_with fail
  refine (hasPrefix T ⟨#[43]⟩ _).mono ?_; rw [hp2]; rintro r w2 ⟨rfl, hb2⟩; have BB := hb1.trans (hb2.mono hb1.size); go_wp2_with fail
  refine (num_digits T hsz _).mono ?_; rintro r w9 ⟨rfl, hb9⟩; go_wp2
  go_ret2
  exact ⟨ret_exp HX.out, BB.trans (hb9.mono BB.size)⟩
theorem exp_o1 (s : ByteArray) (hs : s.size ≤ 4611686018427387904) (hs0 : 0 < s.size) (h1 : ((s[0].toNat : Int) != 101) = false ∨ (((s[0].toNat : Int) != 101) = true ∧ ((s[0].toNat : Int) != 69) = false)) (T : ByteArray) (hT : s.extract 1 s.size = T) (hp : Lib.hasPrefix T.data.toList [45] = false) (hp2 : Lib.hasPrefix T.data.toList [43] = false) (hsz : T.size ≤ 9223372036854775807) (hn : ((nDig T.data.toList : Int) == 0) = false) (hn2 : ¬ (nDig T.data.toList : Int) < T.size) (HD : Keep (∀ k (hk : k < T.size), 48 ≤ T[k].toNat ∧ T[k].toNat ≤ 57)) (HX : Keep (expoN s.data.toList = (sg false (clampN T.data.toList), true))) (w : World) :
  Calls Tryz.prog 158 #[.string s] w fun r w' => r = .returned (expRes (expoN s.data.toList)) ∧ Below w.heap.size w w' := by
 have he := isEmpty_of hs0; have HT := Keep.mk hT; clear hT; have BB0 := Below.refl w.heap.size w; rcases h1 with h1 | ⟨h1, h2⟩
 all_goals
  go_enter Tryz.func158, Tryz.ntmps158
  go_wp2_with fail
  rw [HT.out]; refine (hasPrefix T ⟨#[45]⟩ _).mono ?_; rw [hp]; rintro r w1 ⟨rfl, hb1⟩; go_wp2_with fail
  refine (hasPrefix T ⟨#[43]⟩ _).mono ?_; rw [hp2]; rintro r w2 ⟨rfl, hb2⟩; have BB := hb1.trans (hb2.mono hb1.size); go_wp2_with fail
  refine (num_digits T hsz _).mono ?_; rintro r w9 ⟨rfl, hb9⟩; go_wp2_with fail
  go_loop [6, 41] (fun e i => ∃ k : Nat, k ≤ T.size ∧ i = .int .i64 k ∧ e = .int .i64 (clampN (T.data.toList.take k))) (fun _ i => T.size - (intOf i).toNat)
  case atStart => exact ⟨0, Nat.zero_le _, rfl, rfl⟩
  case round =>
   obtain ⟨k, hk, rfl, rfl⟩ := hrel; have hcl := clampN_le (T.data.toList.take k); by_cases hlt : k < T.size
   ·have hdk := HD.out k hlt
    obtain ⟨hd1, hd2⟩ := hdk; have HS := Keep.mk (clamp_take T k hlt); go_wp2
    refine ⟨⟨k + 1, by omega, by go_num, ?_⟩, by simp [intOf]; omega⟩; rw [HS.out]; congr 1; unfold dg; omega
   have hk2 : k = T.size := by omega
   have HS := Keep.mk (show T.data.toList.take k = T.data.toList by rw [List.take_of_length_le]; simp; omega); clear hk2; go_wp2
   go_ret2
   exact ⟨ret_exp (by rw [HX.out, HS.out]; rfl), BB.trans (hb9.mono BB.size)⟩
theorem pre_of {l : List UInt8} {c : UInt8} (h : Lib.hasPrefix l [c] = true) : l = c :: l.drop 1 := by
 cases l with
 | nil => simp [hasP_nil] at h
 | cons d l => rw [hasP] at h; simp at h; simp [h]
theorem not_pre {d : UInt8} {l : List UInt8} {c : UInt8} (h : Lib.hasPrefix (d :: l) [c] = false) : d ≠ c := by
 rw [hasP] at h; simp at h; exact fun hh => h hh.symm
def fits (neg : Bool) (u : List UInt8) : Int × Bool := if nDig u = 0 ∨ nDig u < u.length then (0, false) else (sg neg (clampN u), true)
theorem fits_eq (neg : Bool) (u : List UInt8) : (match chkE neg u with | none => ((0, false) : Int × Bool) | some (neg, u) => (sg neg (clampN u), true)) = fits neg u := by
 unfold fits chkE; split <;> rename_i h <;> split at h <;> simp_all
theorem expoN_neg {c : UInt8} (hc : c = 101 ∨ c = 69) (u : List UInt8) : expoN (c :: 45 :: u) = fits true u := by
 rw [← fits_eq]; unfold expoN expoP; simp [hc]
theorem expoN_pos {c : UInt8} (hc : c = 101 ∨ c = 69) (u : List UInt8) : expoN (c :: 43 :: u) = fits false u := by
 rw [← fits_eq]; unfold expoN expoP; simp [hc]
theorem expoN_none {c : UInt8} (hc : c = 101 ∨ c = 69) (t : List UInt8) (h1 : Lib.hasPrefix t [45] = false) (h2 : Lib.hasPrefix t [43] = false) : expoN (c :: t) = fits false t := by
 rw [← fits_eq]; unfold expoN expoP; cases t with
 | nil => simp [hc]
 | cons d t =>
  have g1 := not_pre h1; have g2 := not_pre h2; simp [hc, g1, g2]
theorem fits_no {neg : Bool} {u : List UInt8} (h : nDig u = 0 ∨ nDig u < u.length) : fits neg u = (0, false) := by unfold fits; rw [if_pos h]
theorem fits_yes {neg : Bool} {u : List UInt8} (h1 : ¬ nDig u = 0) (h2 : ¬ nDig u < u.length) : fits neg u = (sg neg (clampN u), true) := by unfold fits; rw [if_neg (by omega)]
theorem num_exponent (s : ByteArray) (hs : s.size ≤ 4611686018427387904) (w : World) :
  Calls Tryz.prog 158 #[.string s] w fun r w' => r = .returned (expRes (expoN s.data.toList)) ∧ Below w.heap.size w w' := by
 by_cases hs0 : 0 < s.size
 case neg =>
  have : s = ⟨#[]⟩ := by
   obtain ⟨⟨l⟩⟩ := s; have : l = [] := by cases l with | nil => rfl | cons _ _ => simp [ByteArray.size] at hs0
   rw [this]
  subst this; exact exp_nil w
 have hl : s.data.toList = s[0] :: s.data.toList.drop 1 := by
  have hlen : 0 < s.data.toList.length := by simpa using hs0
  have := List.drop_eq_getElem_cons hlen; rw [List.drop_zero] at this; exact this
 by_cases hc : s[0] = 101 ∨ s[0] = 69
 case neg =>
  have hr : expoN s.data.toList = (0, false) := by
   rw [hl]; unfold expoN expoP; simp [hc]
  have q := exp_other s hs0 (fun h => hc (.inl (UInt8.toNat.inj (by simpa using (by exact_mod_cast h : s[0].toNat = 101))))) (fun h => hc (.inr (UInt8.toNat.inj (by simpa using (by exact_mod_cast h : s[0].toNat = 69))))) w; rw [← hr] at q; exact q
 have h1 : ((s[0].toNat : Int) != 101) = false ∨ (((s[0].toNat : Int) != 101) = true ∧ ((s[0].toNat : Int) != 69) = false) := by
  rcases hc with hc | hc <;> rw [hc] <;> decide
 generalize hT : s.extract 1 s.size = T; have hTl : T.data.toList = s.data.toList.drop 1 := by rw [← hT, drop1]
 have hTs : T.size = s.size - 1 := by rw [← hT, size_drop1]
 rw [← hTl] at hl; have hlen : T.data.toList.length = T.size := by simp
 have key (U : ByteArray) (neg : Bool) : ((nDig U.data.toList : Int) == 0) = true ∨ (((nDig U.data.toList : Int) == 0) = false ∧ (nDig U.data.toList : Int) < U.size) ∨ (((nDig U.data.toList : Int) == 0) = false ∧ ¬ (nDig U.data.toList : Int) < U.size) := by
  cases h : ((nDig U.data.toList : Int) == 0)
  ·by_cases h2 : (nDig U.data.toList : Int) < U.size
   ·exact .inr (.inl ⟨rfl, h2⟩)
   exact .inr (.inr ⟨rfl, h2⟩)
  exact .inl rfl
 have zero (U : ByteArray) (h : ((nDig U.data.toList : Int) == 0) = true) : nDig U.data.toList = 0 := by simpa using h
 have nzero (U : ByteArray) (h : ((nDig U.data.toList : Int) == 0) = false) : ¬ nDig U.data.toList = 0 := by simpa using h
 have less (U : ByteArray) (h : (nDig U.data.toList : Int) < U.size) : nDig U.data.toList < U.data.toList.length := by simpa using h
 have nless (U : ByteArray) (h : ¬ (nDig U.data.toList : Int) < U.size) : ¬ nDig U.data.toList < U.data.toList.length := by simpa using h
 have dgt (U : ByteArray) (h : ¬ (nDig U.data.toList : Int) < U.size) : Keep (∀ k (hk : k < U.size), 48 ≤ U[k].toNat ∧ U[k].toNat ≤ 57) := by
  refine ⟨fun k hk => all_dig U ?_ k hk⟩; have := nDig_le U.data.toList; have := nless U h; simp at *; omega
 by_cases hp : Lib.hasPrefix T.data.toList [45] = true
 ·have hT1 : 0 < T.size := by
   have := congrArg List.length (pre_of hp); simp at this; omega
  generalize hU : T.extract 1 T.size = U; have hUl : U.data.toList = T.data.toList.drop 1 := by rw [← hU, drop1]
  have hUs : U.size = T.size - 1 := by rw [← hU, size_drop1]
  have hX : expoN s.data.toList = fits true U.data.toList := by rw [hl, pre_of hp, ← hUl]; exact expoN_neg hc _
  have hsz : U.size ≤ 9223372036854775807 := by omega
  rcases key U true with h | h | h
  ·exact exp_n0 s hs hs0 h1 T hT U hU hT1 hp hsz (.inl h) ⟨by rw [hX, fits_no (.inl (zero U h))]⟩ w
  ·exact exp_n0 s hs hs0 h1 T hT U hU hT1 hp hsz (.inr h) ⟨by rw [hX, fits_no (.inr (less U h.2))]⟩ w
  exact exp_n1 s hs hs0 h1 T hT U hU hT1 hp hsz h.1 h.2 (dgt U h.2) ⟨by rw [hX, fits_yes (nzero U h.1) (nless U h.2)]⟩ w
 have hp : Lib.hasPrefix T.data.toList [45] = false := by simpa using hp
 by_cases hp2 : Lib.hasPrefix T.data.toList [43] = true
 ·have hT1 : 0 < T.size := by
   have := congrArg List.length (pre_of hp2); simp at this; omega
  generalize hU : T.extract 1 T.size = U; have hUl : U.data.toList = T.data.toList.drop 1 := by rw [← hU, drop1]
  have hUs : U.size = T.size - 1 := by rw [← hU, size_drop1]
  have hX : expoN s.data.toList = fits false U.data.toList := by rw [hl, pre_of hp2, ← hUl]; exact expoN_pos hc _
  have hsz : U.size ≤ 9223372036854775807 := by omega
  rcases key U true with h | h | h
  ·exact exp_p0 s hs hs0 h1 T hT U hU hT1 hp hp2 hsz (.inl h) ⟨by rw [hX, fits_no (.inl (zero U h))]⟩ w
  ·exact exp_p0 s hs hs0 h1 T hT U hU hT1 hp hp2 hsz (.inr h) ⟨by rw [hX, fits_no (.inr (less U h.2))]⟩ w
  exact exp_p1 s hs hs0 h1 T hT U hU hT1 hp hp2 hsz h.1 h.2 (dgt U h.2) ⟨by rw [hX, fits_yes (nzero U h.1) (nless U h.2)]⟩ w
 have hp2 : Lib.hasPrefix T.data.toList [43] = false := by simpa using hp2
 have hX : expoN s.data.toList = fits false T.data.toList := by rw [hl]; exact expoN_none hc _ hp hp2
 have hsz : T.size ≤ 9223372036854775807 := by omega
 rcases key T true with h | h | h
 ·exact exp_o0 s hs hs0 h1 T hT hp hp2 hsz (.inl h) ⟨by rw [hX, fits_no (.inl (zero T h))]⟩ w
 ·exact exp_o0 s hs hs0 h1 T hT hp hp2 hsz (.inr h) ⟨by rw [hX, fits_no (.inr (less T h.2))]⟩ w
 exact exp_o1 s hs hs0 h1 T hT hp hp2 hsz h.1 h.2 (dgt T h.2) ⟨by rw [hX, fits_yes (nzero T h.1) (nless T h.2)]⟩ w
open Go Go.RowKit Go.Proofs Th
theorem val_take (T : ByteArray) (h : ∀ k (hk : k < T.size), 48 ≤ T[k].toNat ∧ T[k].toNat ≤ 57) (k : Nat) (hk : k < T.size) (h18 : T.size ≤ 18) :
  val (dgs (T.data.toList.take (k + 1))) = val (dgs (T.data.toList.take k)) * 10 + (T[k].toNat - 48) ∧ val (dgs (T.data.toList.take k)) ≤ 99999999999999999 := by
 constructor
 ·rw [List.take_succ_eq_append_getElem (by simpa using hk)]
  unfold dgs; rw [List.map_append]; exact val_snoc _ _
 have hd : Digs (dgs (T.data.toList.take k)) := by
  intro d hd; obtain ⟨c, hc, rfl⟩ := List.mem_map.1 hd; obtain ⟨j, hj, rfl⟩ := List.getElem_of_mem (List.mem_of_mem_take hc); have := h j (by simpa using hj); show T.data.toList[j].toNat - 48 ≤ 9
  have e : T.data.toList[j] = T[j]'(by simpa using hj) := rfl; rw [e]; omega
 have := val_lt _ hd; have hl : (dgs (T.data.toList.take k)).length ≤ 17 := by
  unfold dgs; simp; omega
 have := Nat.pow_le_pow_right (n := 10) (by omega) hl; omega
theorem val_18 (T : ByteArray) (h : ∀ k (hk : k < T.size), 48 ≤ T[k].toNat ∧ T[k].toNat ≤ 57) (h18 : T.size ≤ 18) : val (dgs T.data.toList) ≤ 999999999999999999 := by
 have hd : Digs (dgs T.data.toList) := by
  intro d hd; obtain ⟨c, hc, rfl⟩ := List.mem_map.1 hd; obtain ⟨j, hj, rfl⟩ := List.getElem_of_mem hc; have := h j (by simpa using hj); show T.data.toList[j].toNat - 48 ≤ 9
  have e : T.data.toList[j] = T[j]'(by simpa using hj) := rfl; rw [e]; omega
 have := val_lt _ hd; have hl : (dgs T.data.toList).length ≤ 18 := by
  unfold dgs; simp; omega
 have := Nat.pow_le_pow_right (n := 10) (by omega) hl; omega
theorem parse_Ao (s : ByteArray) (hs : s.size ≤ 2305843009213693952) (hp : Lib.hasPrefix s.data.toList [45] = false) (d : Nat) (hd : nDig s.data.toList = d) (hz0 : ((d : Int) == 0) = true) (w : World) (_hg : Glob w) :
  Calls Tryz.prog 150 #[.string s] w fun r w' => r = .returned (numRes ((0, 0), 10)) ∧ Below w.heap.size w w' := by
 go_enter Tryz.func150, Tryz.ntmps150
 go_wp2_with fail
 refine (hasPrefix s ⟨#[45]⟩ _).mono ?_; rw [hp]; rintro r w1 ⟨rfl, hb1⟩; obtain ⟨hc, hf⟩ := bcell hb1; go_wp2_with fail
 refine (num_digits s (by omega) _).mono ?_; rw [hd]; rintro r w2 ⟨rfl, hb2'⟩; have hb2 := up hb1 hb2'; clear hc hf; obtain ⟨hc, hf⟩ := bcell hb2; go_wp2_with fail
 refine (num_zero _).mono ?_; rintro r w3 ⟨rfl, hb3'⟩; have hb3 := up hb2 hb3'; clear hc hf; obtain ⟨hc, hf⟩ := bcell hb3; go_wp2
 refine bodyPost_ret (v := numRes ((0, 0), 10)) ?_ rfl ⟨rfl, ?_⟩
 ·simp [numRes, results, Tryz.results150, go_sem, hc]
 exact st1 (st1 (up (al1 _ _) hb3) _ _ _ (by omega)) _ _ _ (by omega)
theorem parse_Bo (s : ByteArray) (hs : s.size ≤ 2305843009213693952) (hp : Lib.hasPrefix s.data.toList [45] = false) (d : Nat) (hd : nDig s.data.toList = d) (h1 : d ≤ s.size) (hz0 : ((d : Int) == 0) = false) (hz : 1 < d) (hu : (((s[0]'(by omega)).toNat : Int) == 48) = true) (w : World) (_hg : Glob w) :
  Calls Tryz.prog 150 #[.string s] w fun r w' => r = .returned (numRes ((0, 0), 10)) ∧ Below w.heap.size w w' := by
 go_enter Tryz.func150, Tryz.ntmps150
 go_wp2_with fail
 refine (hasPrefix s ⟨#[45]⟩ _).mono ?_; rw [hp]; rintro r w1 ⟨rfl, hb1⟩; obtain ⟨hc, hf⟩ := bcell hb1; go_wp2_with fail
 refine (num_digits s (by omega) _).mono ?_; rw [hd]; rintro r w2 ⟨rfl, hb2'⟩; have hb2 := up hb1 hb2'; clear hc hf; obtain ⟨hc, hf⟩ := bcell hb2; go_wp2_with fail
 refine (num_zero _).mono ?_; rintro r w3 ⟨rfl, hb3'⟩; have hb3 := up hb2 hb3'; clear hc hf; obtain ⟨hc, hf⟩ := bcell hb3; go_wp2
 refine bodyPost_ret (v := numRes ((0, 0), 10)) ?_ rfl ⟨rfl, ?_⟩
 ·simp [numRes, results, Tryz.results150, go_sem, hc]
 exact st1 (st1 (up (al1 _ _) hb3) _ _ _ (by omega)) _ _ _ (by omega)
theorem parse_Co (s : ByteArray) (hs : s.size ≤ 2305843009213693952) (hp : Lib.hasPrefix s.data.toList [45] = false) (d : Nat) (hd : nDig s.data.toList = d) (h1 : d ≤ s.size) (h01 : 1 ≤ d) (hz0 : ((d : Int) == 0) = false) (hz : ¬ 1 < d ∨ (1 < d ∧ (((s[0]'(by omega)).toNat : Int) == 48) = false)) (A R : ByteArray) (hA : s.extract 0 d = A) (hR : s.extract d s.size = R) (_hAs : A.size ≤ 2305843009213693952) (hRs : R.size ≤ 2305843009213693952) (hr : Lib.hasPrefix R.data.toList [46] = true) (hR1 : 0 < R.size) (S : ByteArray) (hS : R.extract 1 R.size = S) (hSs : S.size ≤ 2305843009213693952) (f : Nat) (hf0 : nDig S.data.toList = f) (_hff : f + 1 ≤ R.size) (hf1 : ((f : Int) == 0) = true) (w : World) (_hg : Glob w) :
  Calls Tryz.prog 150 #[.string s] w fun r w' => r = .returned (numRes ((0, 0), 10)) ∧ Below w.heap.size w w' := by
 have HA := Keep.mk hA; have HR := Keep.mk hR; clear hA hR; have HS := Keep.mk hS; clear hS; rcases hz with hz | ⟨hz, hu⟩
 all_goals
  go_enter Tryz.func150, Tryz.ntmps150
  go_wp2_with fail
  refine (hasPrefix s ⟨#[45]⟩ _).mono ?_; rw [hp]; rintro r w1 ⟨rfl, hb1⟩; obtain ⟨hc, hf⟩ := bcell hb1; go_wp2_with fail
  refine (num_digits s (by omega) _).mono ?_; rw [hd]; rintro r w2 ⟨rfl, hb2'⟩; have hb2 := up hb1 hb2'; clear hc hf; obtain ⟨hc, hf⟩ := bcell hb2; go_wp2_with fail
  refine wp_region_from hb2 (by kernel_rfl) (by kernel_rfl) ?_; repeat (go_big_quiet_step (fail))
  refine wpQuiet_nil ?_; rintro _ ⟨x3, rfl⟩; have hb3 := x3.property; clear hc hf; obtain ⟨hc, hf⟩ := bcell hb3; go_wp2_with fail
  rw [HR.out]; go_wp2_with fail
  refine (hasPrefix R ⟨#[46]⟩ _).mono ?_; rw [hr]; rintro r w4 ⟨rfl, hb4'⟩; have hb4 := up hb3 hb4'; clear hc hf; obtain ⟨hc, hf⟩ := bcell hb4; go_wp2_with fail
  rw [HS.out]; go_wp2_with fail
  refine (num_digits S (by omega) _).mono ?_; rw [hf0]; rintro r w5 ⟨rfl, hb5'⟩; have hb5 := up hb4 hb5'; clear hc hf; obtain ⟨hc, hf⟩ := bcell hb5; go_wp2_with fail
  refine (num_zero _).mono ?_; rintro r w6 ⟨rfl, hb6'⟩; have hb6 := up hb5 hb6'; clear hc hf; obtain ⟨hc, hf⟩ := bcell hb6; go_wp2
  refine bodyPost_ret (v := numRes ((0, 0), 10)) ?_ rfl ⟨rfl, ?_⟩
  ·simp [numRes, results, Tryz.results150, go_sem, hc]
  exact st1 (st1 (up (al1 _ _) hb6) _ _ _ (by omega)) _ _ _ (by omega)
theorem parse_Do (s : ByteArray) (hs : s.size ≤ 2305843009213693952) (hp : Lib.hasPrefix s.data.toList [45] = false) (d : Nat) (hd : nDig s.data.toList = d) (h1 : d ≤ s.size) (h01 : 1 ≤ d) (hz0 : ((d : Int) == 0) = false) (hz : ¬ 1 < d ∨ (1 < d ∧ (((s[0]'(by omega)).toNat : Int) == 48) = false)) (A R : ByteArray) (hA : s.extract 0 d = A) (hR : s.extract d s.size = R) (_hAs : A.size ≤ 2305843009213693952) (hRs : R.size ≤ 2305843009213693952) (hr : Lib.hasPrefix R.data.toList [46] = false) (e : Int) (he : expoN R.data.toList = (e, false)) (_he0 : -1099511627776 ≤ e) (_he1 : e ≤ 1099511627776) (w : World) (_hg : Glob w) :
  Calls Tryz.prog 150 #[.string s] w fun r w' => r = .returned (numRes ((0, 0), 10)) ∧ Below w.heap.size w w' := by
 have HA := Keep.mk hA; have HR := Keep.mk hR; clear hA hR; rcases hz with hz | ⟨hz, hu⟩
 all_goals
  go_enter Tryz.func150, Tryz.ntmps150
  go_wp2_with fail
  refine (hasPrefix s ⟨#[45]⟩ _).mono ?_; rw [hp]; rintro r w1 ⟨rfl, hb1⟩; obtain ⟨hc, hf⟩ := bcell hb1; go_wp2_with fail
  refine (num_digits s (by omega) _).mono ?_; rw [hd]; rintro r w2 ⟨rfl, hb2'⟩; have hb2 := up hb1 hb2'; clear hc hf; obtain ⟨hc, hf⟩ := bcell hb2; go_wp2_with fail
  refine wp_region_from hb2 (by kernel_rfl) (by kernel_rfl) ?_; repeat (go_big_quiet_step (fail))
  refine wpQuiet_nil ?_; rintro _ ⟨x3, rfl⟩; have hb3 := x3.property; clear hc hf; obtain ⟨hc, hf⟩ := bcell hb3; go_wp2_with fail
  rw [HR.out]; go_wp2_with fail
  refine (hasPrefix R ⟨#[46]⟩ _).mono ?_; rw [hr]; rintro r w4 ⟨rfl, hb4'⟩; have hb4 := up hb3 hb4'; clear hc hf; obtain ⟨hc, hf⟩ := bcell hb4; go_wp2_with fail
  rw [HA.out]; go_wp2_with fail
  refine (num_exponent R (by omega) _).mono ?_; rw [he]; unfold expRes; rintro r w5 ⟨rfl, hb5'⟩; have hb5 := up hb4 hb5'; clear hc hf; obtain ⟨hc, hf⟩ := bcell hb5; go_wp2_with fail
  refine (num_zero _).mono ?_; rintro r w6 ⟨rfl, hb6'⟩; have hb6 := up hb5 hb6'; clear hc hf; obtain ⟨hc, hf⟩ := bcell hb6; go_wp2
  refine bodyPost_ret (v := numRes ((0, 0), 10)) ?_ rfl ⟨rfl, ?_⟩
  ·simp [numRes, results, Tryz.results150, go_sem, hc]
  exact st1 (st1 (up (al1 _ _) hb6) _ _ _ (by omega)) _ _ _ (by omega)
theorem parse_Dof (s : ByteArray) (hs : s.size ≤ 2305843009213693952) (hp : Lib.hasPrefix s.data.toList [45] = false) (d : Nat) (hd : nDig s.data.toList = d) (h1 : d ≤ s.size) (h01 : 1 ≤ d) (hz0 : ((d : Int) == 0) = false) (hz : ¬ 1 < d ∨ (1 < d ∧ (((s[0]'(by omega)).toNat : Int) == 48) = false)) (A R : ByteArray) (hA : s.extract 0 d = A) (hR : s.extract d s.size = R) (_hAs : A.size ≤ 2305843009213693952) (hRs : R.size ≤ 2305843009213693952) (hr : Lib.hasPrefix R.data.toList [46] = true) (hR1 : 0 < R.size) (S : ByteArray) (hS : R.extract 1 R.size = S) (hSs : S.size ≤ 2305843009213693952) (f : Nat) (hf0 : nDig S.data.toList = f) (hff : f + 1 ≤ R.size) (hf1 : ((f : Int) == 0) = false) (A2 R2 : ByteArray) (hA2 : A ++ R.extract 1 (1 + f) = A2) (hR2 : R.extract (1 + f) R.size = R2) (_hA2s : A2.size ≤ 2305843009213693952) (hR2s : R2.size ≤ 2305843009213693952) (e : Int) (he : expoN R2.data.toList = (e, false)) (_he0 : -1099511627776 ≤ e) (_he1 : e ≤ 1099511627776) (w : World) (_hg : Glob w) :
  Calls Tryz.prog 150 #[.string s] w fun r w' => r = .returned (numRes ((0, 0), 10)) ∧ Below w.heap.size w w' := by
 have HA := Keep.mk hA; have HR := Keep.mk hR; clear hA hR; have HS := Keep.mk hS; clear hS; have HA2 := Keep.mk hA2; have HR2 := Keep.mk hR2; clear hA2 hR2; rcases hz with hz | ⟨hz, hu⟩
 all_goals
  go_enter Tryz.func150, Tryz.ntmps150
  go_wp2_with fail
  refine (hasPrefix s ⟨#[45]⟩ _).mono ?_; rw [hp]; rintro r w1 ⟨rfl, hb1⟩; obtain ⟨hc, hf⟩ := bcell hb1; go_wp2_with fail
  refine (num_digits s (by omega) _).mono ?_; rw [hd]; rintro r w2 ⟨rfl, hb2'⟩; have hb2 := up hb1 hb2'; clear hc hf; obtain ⟨hc, hf⟩ := bcell hb2; go_wp2_with fail
  refine wp_region_from hb2 (by kernel_rfl) (by kernel_rfl) ?_; repeat (go_big_quiet_step (fail))
  refine wpQuiet_nil ?_; rintro _ ⟨x3, rfl⟩; have hb3 := x3.property; clear hc hf; obtain ⟨hc, hf⟩ := bcell hb3; go_wp2_with fail
  rw [HR.out]; go_wp2_with fail
  refine (hasPrefix R ⟨#[46]⟩ _).mono ?_; rw [hr]; rintro r w4 ⟨rfl, hb4'⟩; have hb4 := up hb3 hb4'; clear hc hf; obtain ⟨hc, hf⟩ := bcell hb4; go_wp2_with fail
  rw [HS.out]; go_wp2_with fail
  refine (num_digits S (by omega) _).mono ?_; rw [hf0]; rintro r w5 ⟨rfl, hb5'⟩; have hb5 := up hb4 hb5'; clear hc hf; obtain ⟨hc, hf⟩ := bcell hb5; go_wp2_with fail
  refine wp_region_from hb5 (by kernel_rfl) (by kernel_rfl) ?_; repeat (go_big_quiet_step (fail))
  refine wpQuiet_nil ?_; rintro _ ⟨x6, rfl⟩; have hb6 := x6.property; clear hc hf; obtain ⟨hc, hf⟩ := bcell hb6; go_wp2_with fail
  rw [HA.out, HA2.out, HR2.out]; go_wp2_with fail
  refine (num_exponent R2 (by omega) _).mono ?_; rw [he]; unfold expRes; rintro r w7 ⟨rfl, hb7'⟩; have hb7 := up hb6 hb7'; clear hc hf; obtain ⟨hc, hf⟩ := bcell hb7; go_wp2_with fail
  refine (num_zero _).mono ?_; rintro r w8 ⟨rfl, hb8'⟩; have hb8 := up hb7 hb8'; clear hc hf; obtain ⟨hc, hf⟩ := bcell hb8; go_wp2
  refine bodyPost_ret (v := numRes ((0, 0), 10)) ?_ rfl ⟨rfl, ?_⟩
  ·simp [numRes, results, Tryz.results150, go_sem, hc]
  exact st1 (st1 (up (al1 _ _) hb8) _ _ _ (by omega)) _ _ _ (by omega)
theorem parse_Eo (s : ByteArray) (hs : s.size ≤ 2305843009213693952) (hp : Lib.hasPrefix s.data.toList [45] = false) (d : Nat) (hd : nDig s.data.toList = d) (h1 : d ≤ s.size) (h01 : 1 ≤ d) (hz0 : ((d : Int) == 0) = false) (hz : ¬ 1 < d ∨ (1 < d ∧ (((s[0]'(by omega)).toNat : Int) == 48) = false)) (A R : ByteArray) (hA : s.extract 0 d = A) (hR : s.extract d s.size = R) (hAs : A.size ≤ 2305843009213693952) (hRs : R.size ≤ 2305843009213693952) (hr : Lib.hasPrefix R.data.toList [46] = false) (e : Int) (he : expoN R.data.toList = (e, true)) (_he0 : -1099511627776 ≤ e) (_he1 : e ≤ 1099511627776) (L T : ByteArray) (hL : ⟨(Lib.trimLeftB A.data.toList 48).toArray⟩ = L) (hT : ⟨(Lib.trimRightB L.data.toList 48).toArray⟩ = T) (hLs : L.size ≤ A.size) (hTs : T.size ≤ L.size) (hT0 : T = ⟨#[]⟩) (w : World) (_hg : Glob w) :
  Calls Tryz.prog 150 #[.string s] w fun r w' => r = .returned (numRes ((0, 0), 0)) ∧ Below w.heap.size w w' := by
 have HA := Keep.mk hA; have HR := Keep.mk hR; clear hA hR; have HL := Keep.mk hL; have HT := Keep.mk hT; clear hL hT; rcases hz with hz | ⟨hz, hu⟩
 all_goals
  go_enter Tryz.func150, Tryz.ntmps150
  go_wp2_with fail
  refine (hasPrefix s ⟨#[45]⟩ _).mono ?_; rw [hp]; rintro r w1 ⟨rfl, hb1⟩; obtain ⟨hc, hf⟩ := bcell hb1; go_wp2_with fail
  refine (num_digits s (by omega) _).mono ?_; rw [hd]; rintro r w2 ⟨rfl, hb2'⟩; have hb2 := up hb1 hb2'; clear hc hf; obtain ⟨hc, hf⟩ := bcell hb2; go_wp2_with fail
  refine wp_region_from hb2 (by kernel_rfl) (by kernel_rfl) ?_; repeat (go_big_quiet_step (fail))
  refine wpQuiet_nil ?_; rintro _ ⟨x3, rfl⟩; have hb3 := x3.property; clear hc hf; obtain ⟨hc, hf⟩ := bcell hb3; go_wp2_with fail
  rw [HR.out]; go_wp2_with fail
  refine (hasPrefix R ⟨#[46]⟩ _).mono ?_; rw [hr]; rintro r w4 ⟨rfl, hb4'⟩; have hb4 := up hb3 hb4'; clear hc hf; obtain ⟨hc, hf⟩ := bcell hb4; go_wp2_with fail
  rw [HA.out]; go_wp2_with fail
  refine (num_exponent R (by omega) _).mono ?_; rw [he]; unfold expRes; rintro r w5 ⟨rfl, hb5'⟩; have hb5 := up hb4 hb5'; clear hc hf; obtain ⟨hc, hf⟩ := bcell hb5; go_wp2_with fail
  refine (trimLeft A _).mono ?_; rw [HL.out]; rintro r w6 ⟨rfl, hb6'⟩; have hb6 := up hb5 hb6'; clear hc hf; obtain ⟨hc, hf⟩ := bcell hb6; go_wp2_with fail
  refine (trimRight L (by omega) _).mono ?_; rw [HT.out]; rintro r w7 ⟨rfl, hb7'⟩; have hb7 := up hb6 hb7'; clear hc hf; obtain ⟨hc, hf⟩ := bcell hb7; subst hT0; go_wp2_with fail
  refine (num_zero _).mono ?_; rintro r w8 ⟨rfl, hb8'⟩; have hb8 := up hb7 hb8'; clear hc hf; obtain ⟨hc, hf⟩ := bcell hb8; go_wp2
  refine bodyPost_ret (v := numRes ((0, 0), 0)) ?_ rfl ⟨rfl, ?_⟩
  ·simp [numRes, results, Tryz.results150, go_sem, hc]
  exact st1 (st1 (up (al1 _ _) hb8) _ _ _ (by omega)) _ _ _ (by omega)
theorem parse_Eof (s : ByteArray) (hs : s.size ≤ 2305843009213693952) (hp : Lib.hasPrefix s.data.toList [45] = false) (d : Nat) (hd : nDig s.data.toList = d) (h1 : d ≤ s.size) (h01 : 1 ≤ d) (hz0 : ((d : Int) == 0) = false) (hz : ¬ 1 < d ∨ (1 < d ∧ (((s[0]'(by omega)).toNat : Int) == 48) = false)) (A R : ByteArray) (hA : s.extract 0 d = A) (hR : s.extract d s.size = R) (_hAs : A.size ≤ 2305843009213693952) (hRs : R.size ≤ 2305843009213693952) (hr : Lib.hasPrefix R.data.toList [46] = true) (hR1 : 0 < R.size) (S : ByteArray) (hS : R.extract 1 R.size = S) (hSs : S.size ≤ 2305843009213693952) (f : Nat) (hf0 : nDig S.data.toList = f) (hff : f + 1 ≤ R.size) (hf1 : ((f : Int) == 0) = false) (A2 R2 : ByteArray) (hA2 : A ++ R.extract 1 (1 + f) = A2) (hR2 : R.extract (1 + f) R.size = R2) (hA2s : A2.size ≤ 2305843009213693952) (hR2s : R2.size ≤ 2305843009213693952) (e : Int) (he : expoN R2.data.toList = (e, true)) (_he0 : -1099511627776 ≤ e) (_he1 : e ≤ 1099511627776) (L T : ByteArray) (hL : ⟨(Lib.trimLeftB A2.data.toList 48).toArray⟩ = L) (hT : ⟨(Lib.trimRightB L.data.toList 48).toArray⟩ = T) (hLs : L.size ≤ A2.size) (hTs : T.size ≤ L.size) (hT0 : T = ⟨#[]⟩) (w : World) (_hg : Glob w) :
  Calls Tryz.prog 150 #[.string s] w fun r w' => r = .returned (numRes ((0, 0), 0)) ∧ Below w.heap.size w w' := by
 have HA := Keep.mk hA; have HR := Keep.mk hR; clear hA hR; have HS := Keep.mk hS; clear hS; have HA2 := Keep.mk hA2; have HR2 := Keep.mk hR2; clear hA2 hR2; have HL := Keep.mk hL; have HT := Keep.mk hT; clear hL hT; rcases hz with hz | ⟨hz, hu⟩
 all_goals
  go_enter Tryz.func150, Tryz.ntmps150
  go_wp2_with fail
  refine (hasPrefix s ⟨#[45]⟩ _).mono ?_; rw [hp]; rintro r w1 ⟨rfl, hb1⟩; obtain ⟨hc, hf⟩ := bcell hb1; go_wp2_with fail
  refine (num_digits s (by omega) _).mono ?_; rw [hd]; rintro r w2 ⟨rfl, hb2'⟩; have hb2 := up hb1 hb2'; clear hc hf; obtain ⟨hc, hf⟩ := bcell hb2; go_wp2_with fail
  refine wp_region_from hb2 (by kernel_rfl) (by kernel_rfl) ?_; repeat (go_big_quiet_step (fail))
  refine wpQuiet_nil ?_; rintro _ ⟨x3, rfl⟩; have hb3 := x3.property; clear hc hf; obtain ⟨hc, hf⟩ := bcell hb3; go_wp2_with fail
  rw [HR.out]; go_wp2_with fail
  refine (hasPrefix R ⟨#[46]⟩ _).mono ?_; rw [hr]; rintro r w4 ⟨rfl, hb4'⟩; have hb4 := up hb3 hb4'; clear hc hf; obtain ⟨hc, hf⟩ := bcell hb4; go_wp2_with fail
  rw [HS.out]; go_wp2_with fail
  refine (num_digits S (by omega) _).mono ?_; rw [hf0]; rintro r w5 ⟨rfl, hb5'⟩; have hb5 := up hb4 hb5'; clear hc hf; obtain ⟨hc, hf⟩ := bcell hb5; go_wp2_with fail
  refine wp_region_from hb5 (by kernel_rfl) (by kernel_rfl) ?_; repeat (go_big_quiet_step (fail))
  refine wpQuiet_nil ?_; rintro _ ⟨x6, rfl⟩; have hb6 := x6.property; clear hc hf; obtain ⟨hc, hf⟩ := bcell hb6; go_wp2_with fail
  rw [HA.out, HA2.out, HR2.out]; go_wp2_with fail
  refine (num_exponent R2 (by omega) _).mono ?_; rw [he]; unfold expRes; rintro r w7 ⟨rfl, hb7'⟩; have hb7 := up hb6 hb7'; clear hc hf; obtain ⟨hc, hf⟩ := bcell hb7; go_wp2_with fail
  refine (trimLeft A2 _).mono ?_; rw [HL.out]; rintro r w8 ⟨rfl, hb8'⟩; have hb8 := up hb7 hb8'; clear hc hf; obtain ⟨hc, hf⟩ := bcell hb8; go_wp2_with fail
  refine (trimRight L (by omega) _).mono ?_; rw [HT.out]; rintro r w9 ⟨rfl, hb9'⟩; have hb9 := up hb8 hb9'; clear hc hf; obtain ⟨hc, hf⟩ := bcell hb9; subst hT0; go_wp2_with fail
  refine (num_zero _).mono ?_; rintro r w10 ⟨rfl, hb10'⟩; have hb10 := up hb9 hb10'; clear hc hf; obtain ⟨hc, hf⟩ := bcell hb10; go_wp2
  refine bodyPost_ret (v := numRes ((0, 0), 0)) ?_ rfl ⟨rfl, ?_⟩
  ·simp [numRes, results, Tryz.results150, go_sem, hc]
  exact st1 (st1 (up (al1 _ _) hb10) _ _ _ (by omega)) _ _ _ (by omega)
theorem parse_Fo (s : ByteArray) (hs : s.size ≤ 2305843009213693952) (hp : Lib.hasPrefix s.data.toList [45] = false) (d : Nat) (hd : nDig s.data.toList = d) (h1 : d ≤ s.size) (h01 : 1 ≤ d) (hz0 : ((d : Int) == 0) = false) (hz : ¬ 1 < d ∨ (1 < d ∧ (((s[0]'(by omega)).toNat : Int) == 48) = false)) (A R : ByteArray) (hA : s.extract 0 d = A) (hR : s.extract d s.size = R) (hAs : A.size ≤ 2305843009213693952) (hRs : R.size ≤ 2305843009213693952) (hr : Lib.hasPrefix R.data.toList [46] = false) (e : Int) (he : expoN R.data.toList = (e, true)) (_he0 : -1099511627776 ≤ e) (_he1 : e ≤ 1099511627776) (L T : ByteArray) (hL : ⟨(Lib.trimLeftB A.data.toList 48).toArray⟩ = L) (hT : ⟨(Lib.trimRightB L.data.toList 48).toArray⟩ = T) (hLs : L.size ≤ A.size) (_hTs : T.size ≤ L.size) (hTe : T.toList.isEmpty = false) (hT1 : 18 < T.size) (w : World) (_hg : Glob w) :
  Calls Tryz.prog 150 #[.string s] w fun r w' => r = .returned (numRes ((0, 0), 11)) ∧ Below w.heap.size w w' := by
 have HA := Keep.mk hA; have HR := Keep.mk hR; clear hA hR; have HL := Keep.mk hL; have HT := Keep.mk hT; clear hL hT; rcases hz with hz | ⟨hz, hu⟩
 all_goals
  go_enter Tryz.func150, Tryz.ntmps150
  go_wp2_with fail
  refine (hasPrefix s ⟨#[45]⟩ _).mono ?_; rw [hp]; rintro r w1 ⟨rfl, hb1⟩; obtain ⟨hc, hf⟩ := bcell hb1; go_wp2_with fail
  refine (num_digits s (by omega) _).mono ?_; rw [hd]; rintro r w2 ⟨rfl, hb2'⟩; have hb2 := up hb1 hb2'; clear hc hf; obtain ⟨hc, hf⟩ := bcell hb2; go_wp2_with fail
  refine wp_region_from hb2 (by kernel_rfl) (by kernel_rfl) ?_; repeat (go_big_quiet_step (fail))
  refine wpQuiet_nil ?_; rintro _ ⟨x3, rfl⟩; have hb3 := x3.property; clear hc hf; obtain ⟨hc, hf⟩ := bcell hb3; go_wp2_with fail
  rw [HR.out]; go_wp2_with fail
  refine (hasPrefix R ⟨#[46]⟩ _).mono ?_; rw [hr]; rintro r w4 ⟨rfl, hb4'⟩; have hb4 := up hb3 hb4'; clear hc hf; obtain ⟨hc, hf⟩ := bcell hb4; go_wp2_with fail
  rw [HA.out]; go_wp2_with fail
  refine (num_exponent R (by omega) _).mono ?_; rw [he]; unfold expRes; rintro r w5 ⟨rfl, hb5'⟩; have hb5 := up hb4 hb5'; clear hc hf; obtain ⟨hc, hf⟩ := bcell hb5; go_wp2_with fail
  refine (trimLeft A _).mono ?_; rw [HL.out]; rintro r w6 ⟨rfl, hb6'⟩; have hb6 := up hb5 hb6'; clear hc hf; obtain ⟨hc, hf⟩ := bcell hb6; go_wp2_with fail
  refine (trimRight L (by omega) _).mono ?_; rw [HT.out]; rintro r w7 ⟨rfl, hb7'⟩; have hb7 := up hb6 hb7'; clear hc hf; obtain ⟨hc, hf⟩ := bcell hb7; go_wp2_with fail
  refine (num_zero _).mono ?_; rintro r w8 ⟨rfl, hb8'⟩; have hb8 := up hb7 hb8'; clear hc hf; obtain ⟨hc, hf⟩ := bcell hb8; go_wp2
  refine bodyPost_ret (v := numRes ((0, 0), 11)) ?_ rfl ⟨rfl, ?_⟩
  ·simp [numRes, results, Tryz.results150, go_sem, hc]
  exact st1 (st1 (up (al1 _ _) hb8) _ _ _ (by omega)) _ _ _ (by omega)
theorem parse_Fof (s : ByteArray) (hs : s.size ≤ 2305843009213693952) (hp : Lib.hasPrefix s.data.toList [45] = false) (d : Nat) (hd : nDig s.data.toList = d) (h1 : d ≤ s.size) (h01 : 1 ≤ d) (hz0 : ((d : Int) == 0) = false) (hz : ¬ 1 < d ∨ (1 < d ∧ (((s[0]'(by omega)).toNat : Int) == 48) = false)) (A R : ByteArray) (hA : s.extract 0 d = A) (hR : s.extract d s.size = R) (_hAs : A.size ≤ 2305843009213693952) (hRs : R.size ≤ 2305843009213693952) (hr : Lib.hasPrefix R.data.toList [46] = true) (hR1 : 0 < R.size) (S : ByteArray) (hS : R.extract 1 R.size = S) (hSs : S.size ≤ 2305843009213693952) (f : Nat) (hf0 : nDig S.data.toList = f) (hff : f + 1 ≤ R.size) (hf1 : ((f : Int) == 0) = false) (A2 R2 : ByteArray) (hA2 : A ++ R.extract 1 (1 + f) = A2) (hR2 : R.extract (1 + f) R.size = R2) (hA2s : A2.size ≤ 2305843009213693952) (hR2s : R2.size ≤ 2305843009213693952) (e : Int) (he : expoN R2.data.toList = (e, true)) (_he0 : -1099511627776 ≤ e) (_he1 : e ≤ 1099511627776) (L T : ByteArray) (hL : ⟨(Lib.trimLeftB A2.data.toList 48).toArray⟩ = L) (hT : ⟨(Lib.trimRightB L.data.toList 48).toArray⟩ = T) (hLs : L.size ≤ A2.size) (_hTs : T.size ≤ L.size) (hTe : T.toList.isEmpty = false) (hT1 : 18 < T.size) (w : World) (_hg : Glob w) :
  Calls Tryz.prog 150 #[.string s] w fun r w' => r = .returned (numRes ((0, 0), 11)) ∧ Below w.heap.size w w' := by
 have HA := Keep.mk hA; have HR := Keep.mk hR; clear hA hR; have HS := Keep.mk hS; clear hS; have HA2 := Keep.mk hA2; have HR2 := Keep.mk hR2; clear hA2 hR2; have HL := Keep.mk hL; have HT := Keep.mk hT; clear hL hT; rcases hz with hz | ⟨hz, hu⟩
 all_goals
  go_enter Tryz.func150, Tryz.ntmps150
  go_wp2_with fail
  refine (hasPrefix s ⟨#[45]⟩ _).mono ?_; rw [hp]; rintro r w1 ⟨rfl, hb1⟩; obtain ⟨hc, hf⟩ := bcell hb1; go_wp2_with fail
  refine (num_digits s (by omega) _).mono ?_; rw [hd]; rintro r w2 ⟨rfl, hb2'⟩; have hb2 := up hb1 hb2'; clear hc hf; obtain ⟨hc, hf⟩ := bcell hb2; go_wp2_with fail
  refine wp_region_from hb2 (by kernel_rfl) (by kernel_rfl) ?_; repeat (go_big_quiet_step (fail))
  refine wpQuiet_nil ?_; rintro _ ⟨x3, rfl⟩; have hb3 := x3.property; clear hc hf; obtain ⟨hc, hf⟩ := bcell hb3; go_wp2_with fail
  rw [HR.out]; go_wp2_with fail
  refine (hasPrefix R ⟨#[46]⟩ _).mono ?_; rw [hr]; rintro r w4 ⟨rfl, hb4'⟩; have hb4 := up hb3 hb4'; clear hc hf; obtain ⟨hc, hf⟩ := bcell hb4; go_wp2_with fail
  rw [HS.out]; go_wp2_with fail
  refine (num_digits S (by omega) _).mono ?_; rw [hf0]; rintro r w5 ⟨rfl, hb5'⟩; have hb5 := up hb4 hb5'; clear hc hf; obtain ⟨hc, hf⟩ := bcell hb5; go_wp2_with fail
  refine wp_region_from hb5 (by kernel_rfl) (by kernel_rfl) ?_; repeat (go_big_quiet_step (fail))
  refine wpQuiet_nil ?_; rintro _ ⟨x6, rfl⟩; have hb6 := x6.property; clear hc hf; obtain ⟨hc, hf⟩ := bcell hb6; go_wp2_with fail
  rw [HA.out, HA2.out, HR2.out]; go_wp2_with fail
  refine (num_exponent R2 (by omega) _).mono ?_; rw [he]; unfold expRes; rintro r w7 ⟨rfl, hb7'⟩; have hb7 := up hb6 hb7'; clear hc hf; obtain ⟨hc, hf⟩ := bcell hb7; go_wp2_with fail
  refine (trimLeft A2 _).mono ?_; rw [HL.out]; rintro r w8 ⟨rfl, hb8'⟩; have hb8 := up hb7 hb8'; clear hc hf; obtain ⟨hc, hf⟩ := bcell hb8; go_wp2_with fail
  refine (trimRight L (by omega) _).mono ?_; rw [HT.out]; rintro r w9 ⟨rfl, hb9'⟩; have hb9 := up hb8 hb9'; clear hc hf; obtain ⟨hc, hf⟩ := bcell hb9; go_wp2_with fail
  refine (num_zero _).mono ?_; rintro r w10 ⟨rfl, hb10'⟩; have hb10 := up hb9 hb10'; clear hc hf; obtain ⟨hc, hf⟩ := bcell hb10; go_wp2
  refine bodyPost_ret (v := numRes ((0, 0), 11)) ?_ rfl ⟨rfl, ?_⟩
  ·simp [numRes, results, Tryz.results150, go_sem, hc]
  exact st1 (st1 (up (al1 _ _) hb10) _ _ _ (by omega)) _ _ _ (by omega)
theorem parse_Go (s : ByteArray) (hs : s.size ≤ 2305843009213693952) (hp : Lib.hasPrefix s.data.toList [45] = false) (d : Nat) (hd : nDig s.data.toList = d) (h1 : d ≤ s.size) (h01 : 1 ≤ d) (hz0 : ((d : Int) == 0) = false) (hz : ¬ 1 < d ∨ (1 < d ∧ (((s[0]'(by omega)).toNat : Int) == 48) = false)) (A R : ByteArray) (hA : s.extract 0 d = A) (hR : s.extract d s.size = R) (hAs : A.size ≤ 2305843009213693952) (hRs : R.size ≤ 2305843009213693952) (hr : Lib.hasPrefix R.data.toList [46] = false) (e : Int) (he : expoN R.data.toList = (e, true)) (he0 : -1099511627776 ≤ e) (he1 : e ≤ 1099511627776) (L T : ByteArray) (hL : ⟨(Lib.trimLeftB A.data.toList 48).toArray⟩ = L) (hT : ⟨(Lib.trimRightB L.data.toList 48).toArray⟩ = T) (hLs : L.size ≤ A.size) (hTs : T.size ≤ L.size) (hTe : T.toList.isEmpty = false) (hT0 : 0 < T.size) (hT1 : T.size ≤ 18) (HD : Keep (∀ k (hk : k < T.size), 48 ≤ T[k].toNat ∧ T[k].toNat ≤ 57)) (w : World) (hg : Glob w) :
  Calls Tryz.prog 150 #[.string s] w fun r w' => r = .returned (numRes (norm false (val (dgs T.data.toList)) (e + L.size - T.size))) ∧ Below w.heap.size w w' := by
 have HA := Keep.mk hA; have HR := Keep.mk hR; clear hA hR; have HL := Keep.mk hL; have HT := Keep.mk hT; clear hL hT; rcases hz with hz | ⟨hz, hu⟩
 all_goals
  go_enter Tryz.func150, Tryz.ntmps150
  go_wp2_with fail
  refine (hasPrefix s ⟨#[45]⟩ _).mono ?_; rw [hp]; rintro r w1 ⟨rfl, hb1⟩; obtain ⟨hc, hf⟩ := bcell hb1; go_wp2_with fail
  refine (num_digits s (by omega) _).mono ?_; rw [hd]; rintro r w2 ⟨rfl, hb2'⟩; have hb2 := up hb1 hb2'; clear hc hf; obtain ⟨hc, hf⟩ := bcell hb2; go_wp2_with fail
  refine wp_region_from hb2 (by kernel_rfl) (by kernel_rfl) ?_; repeat (go_big_quiet_step (fail))
  refine wpQuiet_nil ?_; rintro _ ⟨x3, rfl⟩; have hb3 := x3.property; clear hc hf; obtain ⟨hc, hf⟩ := bcell hb3; go_wp2_with fail
  rw [HR.out]; go_wp2_with fail
  refine (hasPrefix R ⟨#[46]⟩ _).mono ?_; rw [hr]; rintro r w4 ⟨rfl, hb4'⟩; have hb4 := up hb3 hb4'; clear hc hf; obtain ⟨hc, hf⟩ := bcell hb4; go_wp2_with fail
  rw [HA.out]; go_wp2_with fail
  refine (num_exponent R (by omega) _).mono ?_; rw [he]; unfold expRes; rintro r w5 ⟨rfl, hb5'⟩; have hb5 := up hb4 hb5'; clear hc hf; obtain ⟨hc, hf⟩ := bcell hb5; go_wp2_with fail
  refine (trimLeft A _).mono ?_; rw [HL.out]; rintro r w6 ⟨rfl, hb6'⟩; have hb6 := up hb5 hb6'; clear hc hf; obtain ⟨hc, hf⟩ := bcell hb6; go_wp2_with fail
  refine (trimRight L (by omega) _).mono ?_; rw [HT.out]; rintro r w7 ⟨rfl, hb7'⟩; have hb7 := up hb6 hb7'; clear hc hf; obtain ⟨hc, hf⟩ := bcell hb7; go_wp2_with fail
  go_loop [12, 78] (fun m i => ∃ k : Nat, k ≤ T.size ∧ i = .int .i64 k ∧ m = .int .u64 (val (dgs (T.data.toList.take k)) : Nat)) (fun _ i => T.size - (intOf i).toNat)
  case atStart => exact ⟨0, Nat.zero_le _, rfl, rfl⟩
  case round =>
   obtain ⟨k, hk, rfl, rfl⟩ := hrel; by_cases hlt : k < T.size
   ·obtain ⟨hv, hv1⟩ := val_take T HD.out k hlt hT1
    have hdk := HD.out k hlt; obtain ⟨hd1, hd2⟩ := hdk; have HV := Keep.mk hv; clear hv; generalize val (dgs (T.data.toList.take k)) = v at *; go_wp2
    refine ⟨⟨k + 1, by omega, by go_num, ?_⟩, by simp [intOf]; omega⟩; rw [HV.out]; congr 1; omega
   have hk2 : k = T.size := by omega
   have HS := Keep.mk (show T.data.toList.take k = T.data.toList by rw [List.take_of_length_le]; simp; omega); clear hk2; rw [HS.out]; have HV := Keep.mk (val_18 T HD.out hT1); generalize hvv : val (dgs T.data.toList) = v; rw [hvv] at HV; obtain ⟨hv1⟩ := HV; have HVV := Keep.mk hvv; clear hvv; go_wp2_with fail
   refine (num_made false 0 v (e + L.size - T.size) (by omega) (by omega) (by omega) (by omega) (by omega) (by omega) _ (hg.below (up (al1 _ _) hb7))).mono ?_; rw [show wide 0 (v : Int) = v by unfold wide; omega]; rintro r w8 ⟨rfl, hb8'⟩; have hb8 := up hb7 hb8'; clear hc hf; obtain ⟨hc, hf⟩ := bcell hb8; generalize hres : norm false v (e + L.size - T.size) = res; have HRES := Keep.mk hres; clear hres; unfold numRes; go_wp2
   refine bodyPost_ret (v := numRes res) ?_ rfl ⟨num_res (by rw [HVV.out, HRES.out]), ?_⟩
   ·simp [numRes, results, Tryz.results150, go_sem, hc]
   exact st1 (st1 (up (al1 _ _) hb8) _ _ _ (by omega)) _ _ _ (by omega)
theorem parse_Gof (s : ByteArray) (hs : s.size ≤ 2305843009213693952) (hp : Lib.hasPrefix s.data.toList [45] = false) (d : Nat) (hd : nDig s.data.toList = d) (h1 : d ≤ s.size) (h01 : 1 ≤ d) (hz0 : ((d : Int) == 0) = false) (hz : ¬ 1 < d ∨ (1 < d ∧ (((s[0]'(by omega)).toNat : Int) == 48) = false)) (A R : ByteArray) (hA : s.extract 0 d = A) (hR : s.extract d s.size = R) (_hAs : A.size ≤ 2305843009213693952) (hRs : R.size ≤ 2305843009213693952) (hr : Lib.hasPrefix R.data.toList [46] = true) (hR1 : 0 < R.size) (S : ByteArray) (hS : R.extract 1 R.size = S) (hSs : S.size ≤ 2305843009213693952) (f : Nat) (hf0 : nDig S.data.toList = f) (hff : f + 1 ≤ R.size) (hf1 : ((f : Int) == 0) = false) (A2 R2 : ByteArray) (hA2 : A ++ R.extract 1 (1 + f) = A2) (hR2 : R.extract (1 + f) R.size = R2) (hA2s : A2.size ≤ 2305843009213693952) (hR2s : R2.size ≤ 2305843009213693952) (e : Int) (he : expoN R2.data.toList = (e, true)) (he0 : -1099511627776 ≤ e) (he1 : e ≤ 1099511627776) (L T : ByteArray) (hL : ⟨(Lib.trimLeftB A2.data.toList 48).toArray⟩ = L) (hT : ⟨(Lib.trimRightB L.data.toList 48).toArray⟩ = T) (hLs : L.size ≤ A2.size) (hTs : T.size ≤ L.size) (hTe : T.toList.isEmpty = false) (hT0 : 0 < T.size) (hT1 : T.size ≤ 18) (HD : Keep (∀ k (hk : k < T.size), 48 ≤ T[k].toNat ∧ T[k].toNat ≤ 57)) (w : World) (hg : Glob w) :
  Calls Tryz.prog 150 #[.string s] w fun r w' => r = .returned (numRes (norm false (val (dgs T.data.toList)) (e - f + L.size - T.size))) ∧ Below w.heap.size w w' := by
 have HA := Keep.mk hA; have HR := Keep.mk hR; clear hA hR; have HS := Keep.mk hS; clear hS; have HA2 := Keep.mk hA2; have HR2 := Keep.mk hR2; clear hA2 hR2; have HL := Keep.mk hL; have HT := Keep.mk hT; clear hL hT; rcases hz with hz | ⟨hz, hu⟩
 all_goals
  go_enter Tryz.func150, Tryz.ntmps150
  go_wp2_with fail
  refine (hasPrefix s ⟨#[45]⟩ _).mono ?_; rw [hp]; rintro r w1 ⟨rfl, hb1⟩; obtain ⟨hc, hf⟩ := bcell hb1; go_wp2_with fail
  refine (num_digits s (by omega) _).mono ?_; rw [hd]; rintro r w2 ⟨rfl, hb2'⟩; have hb2 := up hb1 hb2'; clear hc hf; obtain ⟨hc, hf⟩ := bcell hb2; go_wp2_with fail
  refine wp_region_from hb2 (by kernel_rfl) (by kernel_rfl) ?_; repeat (go_big_quiet_step (fail))
  refine wpQuiet_nil ?_; rintro _ ⟨x3, rfl⟩; have hb3 := x3.property; clear hc hf; obtain ⟨hc, hf⟩ := bcell hb3; go_wp2_with fail
  rw [HR.out]; go_wp2_with fail
  refine (hasPrefix R ⟨#[46]⟩ _).mono ?_; rw [hr]; rintro r w4 ⟨rfl, hb4'⟩; have hb4 := up hb3 hb4'; clear hc hf; obtain ⟨hc, hf⟩ := bcell hb4; go_wp2_with fail
  rw [HS.out]; go_wp2_with fail
  refine (num_digits S (by omega) _).mono ?_; rw [hf0]; rintro r w5 ⟨rfl, hb5'⟩; have hb5 := up hb4 hb5'; clear hc hf; obtain ⟨hc, hf⟩ := bcell hb5; go_wp2_with fail
  refine wp_region_from hb5 (by kernel_rfl) (by kernel_rfl) ?_; repeat (go_big_quiet_step (fail))
  refine wpQuiet_nil ?_; rintro _ ⟨x6, rfl⟩; have hb6 := x6.property; clear hc hf; obtain ⟨hc, hf⟩ := bcell hb6; go_wp2_with fail
  rw [HA.out, HA2.out, HR2.out]; go_wp2_with fail
  refine (num_exponent R2 (by omega) _).mono ?_; rw [he]; unfold expRes; rintro r w7 ⟨rfl, hb7'⟩; have hb7 := up hb6 hb7'; clear hc hf; obtain ⟨hc, hf⟩ := bcell hb7; go_wp2_with fail
  refine (trimLeft A2 _).mono ?_; rw [HL.out]; rintro r w8 ⟨rfl, hb8'⟩; have hb8 := up hb7 hb8'; clear hc hf; obtain ⟨hc, hf⟩ := bcell hb8; go_wp2_with fail
  refine (trimRight L (by omega) _).mono ?_; rw [HT.out]; rintro r w9 ⟨rfl, hb9'⟩; have hb9 := up hb8 hb9'; clear hc hf; obtain ⟨hc, hf⟩ := bcell hb9; go_wp2_with fail
  go_loop [12, 78] (fun m i => ∃ k : Nat, k ≤ T.size ∧ i = .int .i64 k ∧ m = .int .u64 (val (dgs (T.data.toList.take k)) : Nat)) (fun _ i => T.size - (intOf i).toNat)
  case atStart => exact ⟨0, Nat.zero_le _, rfl, rfl⟩
  case round =>
   obtain ⟨k, hk, rfl, rfl⟩ := hrel; by_cases hlt : k < T.size
   ·obtain ⟨hv, hv1⟩ := val_take T HD.out k hlt hT1
    have hdk := HD.out k hlt; obtain ⟨hd1, hd2⟩ := hdk; have HV := Keep.mk hv; clear hv; generalize val (dgs (T.data.toList.take k)) = v at *; go_wp2
    refine ⟨⟨k + 1, by omega, by go_num, ?_⟩, by simp [intOf]; omega⟩; rw [HV.out]; congr 1; omega
   have hk2 : k = T.size := by omega
   have HS := Keep.mk (show T.data.toList.take k = T.data.toList by rw [List.take_of_length_le]; simp; omega); clear hk2; rw [HS.out]; have HV := Keep.mk (val_18 T HD.out hT1); generalize hvv : val (dgs T.data.toList) = v; rw [hvv] at HV; obtain ⟨hv1⟩ := HV; have HVV := Keep.mk hvv; clear hvv; go_wp2_with fail
   refine (num_made false 0 v (e - f + L.size - T.size) (by omega) (by omega) (by omega) (by omega) (by omega) (by omega) _ (hg.below (up (al1 _ _) hb9))).mono ?_; rw [show wide 0 (v : Int) = v by unfold wide; omega]; rintro r w10 ⟨rfl, hb10'⟩; have hb10 := up hb9 hb10'; clear hc hf; obtain ⟨hc, hf⟩ := bcell hb10; generalize hres : norm false v (e - f + L.size - T.size) = res; have HRES := Keep.mk hres; clear hres; unfold numRes; go_wp2
   refine bodyPost_ret (v := numRes res) ?_ rfl ⟨num_res (by rw [HVV.out, HRES.out]), ?_⟩
   ·simp [numRes, results, Tryz.results150, go_sem, hc]
   exact st1 (st1 (up (al1 _ _) hb10) _ _ _ (by omega)) _ _ _ (by omega)
open Go Go.RowKit Go.Proofs Th
theorem ext_to (s : ByteArray) (k : Nat) : (s.extract k s.size).data.toList = s.data.toList.drop k := by
 rw [Lib.extract_data, List.take_of_length_le]; simp
theorem ext_from (s : ByteArray) (k : Nat) : (s.extract 0 k).data.toList = s.data.toList.take k := by
 rw [Lib.extract_data]; simp
theorem ext_mid (s : ByteArray) (f : Nat) : (s.extract 1 (1 + f)).data.toList = (s.data.toList.drop 1).take f := by
 rw [Lib.extract_data]; congr 1; omega
theorem size_list (s : ByteArray) : s.size = s.data.toList.length := by simp
theorem head_list (s : ByteArray) (h : 0 < s.size) : s.data.toList.head? = some s[0] := by
 have h2 : 0 < s.data.toList.length := by simpa using h
 rw [List.head?_eq_getElem?, List.getElem?_eq_getElem h2]; rfl
theorem head_of_pre {l : List UInt8} {c : UInt8} (h : Lib.hasPrefix l [c] = true) : l.head? = some c := by rw [pre_of h]; rfl
theorem head_not_pre {l : List UInt8} {c : UInt8} (h : Lib.hasPrefix l [c] = false) : l.head? ≠ some c := by
 cases l with
 | nil => simp
 | cons d l => have := not_pre h; simpa using this
theorem expoN_of_none {l : List UInt8} (h : expoP l = none) : expoN l = (0, false) := by unfold expoN; rw [h]
theorem expoN_of_some {l x : List UInt8} {en : Bool} (h : expoP l = some (en, x)) : expoN l = (sg en (clampN x), true) := by unfold expoN; rw [h]
theorem sg_lo (en : Bool) (x : List UInt8) : -1099511627776 ≤ sg en (clampN x) := by have := clampN_le x; unfold sg; split <;> omega
theorem sg_hi (en : Bool) (x : List UInt8) : sg en (clampN x) ≤ 1099511627776 := by have := clampN_le x; unfold sg; split <;> omega
theorem norm_eleven (neg : Bool) (v : Nat) (e : Int) (h1 : v % 10 ≠ 0) (h2 : 1000000000000000000 ≤ v) : norm neg v e = ((0, 0), 11) := by
 rw [norm_fin _ _ _ h1]; unfold fin; rw [if_pos (.inl h2)]
theorem isEmpty_list (T : ByteArray) (h : T.data.toList ≠ []) : T.toList.isEmpty = false := isEmpty_of (by
 cases h2 : T.data.toList with
 | nil => exact absurd h2 h
 | cons _ _ => rw [size_list, h2]; simp)
theorem empty_list (T : ByteArray) (h : T.data.toList = []) : T = ⟨#[]⟩ := by
 obtain ⟨⟨l⟩⟩ := T; have : l = [] := h; rw [this]
theorem allDig_get (T : ByteArray) (h : AllDig T.data.toList) : Keep (∀ k (hk : k < T.size), 48 ≤ T[k].toNat ∧ T[k].toNat ≤ 57) :=
 ⟨fun k hk => h T[k] (List.getElem_mem (l := T.data.toList) (n := k) (by simpa using hk))⟩
theorem parse_core_o (s : ByteArray) (hs : s.size ≤ 2305843009213693952) (hp : Lib.hasPrefix s.data.toList [45] = false) (w : World) (hg : Glob w) :
  Calls Tryz.prog 150 #[.string s] w fun r w' => r = .returned (numRes (coreN false s.data.toList)) ∧ Below w.heap.size w w' := by
 generalize hd : nDig s.data.toList = d; have h1 : d ≤ s.size := by rw [← hd, size_list]; exact nDig_le _
 by_cases hz0 : d = 0
 ·rw [core_bad _ _ (.inl (by rw [hd, hz0]))]; exact parse_Ao s hs hp d hd (by rw [hz0]; rfl) w hg
 have h01 : 1 ≤ d := by omega
 have hU0 : 0 < s.size := by omega
 have hh := head_list s hU0; have hzf : ((d : Int) == 0) = false := by simpa using hz0
 by_cases hb : 1 < d ∧ s[0] = 48
 ·rw [core_bad _ _ (.inr ⟨by rw [hd]; exact hb.1, by rw [hh, hb.2]⟩)]; exact parse_Bo s hs hp d hd h1 hzf hb.1 (by rw [hb.2]; rfl) w hg
 have hnb : ¬ (d = 0 ∨ (1 < d ∧ s.data.toList.head? = some 48)) := by
  rw [hh]; rintro (h | ⟨h, h2⟩)
  ·exact hz0 h
  exact hb ⟨h, Option.some.inj h2⟩
 have hz : ¬ 1 < d ∨ (1 < d ∧ ((s[0].toNat : Int) == 48) = false) := by
  by_cases hlt : 1 < d
  ·right; refine ⟨hlt, ?_⟩
   have : s[0].toNat ≠ 48 := fun h => hb ⟨hlt, UInt8.toNat.inj h⟩
   simp; omega
  exact .inl hlt
 generalize hA : s.extract 0 d = A; generalize hR : s.extract d s.size = R; have hAl : A.data.toList = s.data.toList.take d := by rw [← hA, ext_from]
 have hRl : R.data.toList = s.data.toList.drop d := by rw [← hR, ext_to]
 have hAn : A.size = d := by rw [size_list, hAl, List.length_take, ← size_list]; omega
 have hRn : R.size = s.size - d := by rw [size_list, hRl, List.length_drop, ← size_list]
 have hAs : A.size ≤ 2305843009213693952 := by omega
 have hRs : R.size ≤ 2305843009213693952 := by omega
 have hAd : AllDig A.data.toList := by rw [hAl, ← hd]; exact allDig_take _
 by_cases hr : Lib.hasPrefix R.data.toList [46] = true
 ·have hR1 : 0 < R.size := by
   have := congrArg List.length (pre_of hr); rw [size_list]; simp at this; simp; omega
  have hRh := head_of_pre hr; generalize hS : R.extract 1 R.size = S; have hSl : S.data.toList = R.data.toList.drop 1 := by rw [← hS, ext_to]
  have hSn : S.size = R.size - 1 := by rw [size_list, hSl, List.length_drop, ← size_list]
  have hSs : S.size ≤ 2305843009213693952 := by omega
  generalize hf0 : nDig S.data.toList = f; have hff : f + 1 ≤ R.size := by have := nDig_le S.data.toList; rw [← size_list] at this; omega
  by_cases hfz : f = 0
  ·have hF : fracP (s.data.toList.drop (nDig s.data.toList)) = none := by
    rw [hd, ← hRl]; unfold fracP; rw [if_pos hRh, ← hSl, if_pos (by rw [hf0]; exact hfz)]
   rw [core_frac _ _ hF]; exact parse_Co s hs hp d hd h1 h01 hzf hz A R hA hR hAs hRs hr hR1 S hS hSs f hf0 hff (by rw [hfz]; rfl) w hg
  have hf1 : ((f : Int) == 0) = false := by simpa using hfz
  generalize hA2 : A ++ R.extract 1 (1 + f) = A2; generalize hR2 : R.extract (1 + f) R.size = R2; have hR2l : R2.data.toList = S.data.toList.drop f := by rw [← hR2, ext_to, hSl, List.drop_drop]
  generalize hFF : S.data.toList.take f = F; have hF : fracP (s.data.toList.drop (nDig s.data.toList)) = some (F, R2.data.toList) := by
   rw [hd, ← hRl]; unfold fracP; rw [if_pos hRh, ← hSl, if_neg (by rw [hf0]; exact hfz), hf0, hR2l, hFF]
  have hA2l : A2.data.toList = A.data.toList ++ F := by rw [← hA2, ByteArray.data_append, Array.toList_append, ext_mid, ← hSl, hFF]
  have hAF : s.data.toList.take d ++ F = A2.data.toList := by rw [hA2l, hAl]
  have hFn : (F.length : Int) = f := by
   rw [← hFF, List.length_take, ← size_list]; omega
  have hAD : AllDig A2.data.toList := by
   rw [hA2l, ← hFF, ← hf0]; exact allDig_append hAd (allDig_take _)
  have hA2s : A2.size ≤ 2305843009213693952 := by rw [size_list, hA2l, List.length_append, ← size_list]; omega
  have hR2s : R2.size ≤ 2305843009213693952 := by rw [size_list, hR2l, List.length_drop, ← size_list]; omega
  cases hx : expoP R2.data.toList with
  | none =>
   rw [core_expo _ _ _ _ hF hx]; exact parse_Dof s hs hp d hd h1 h01 hzf hz A R hA hR hAs hRs hr hR1 S hS hSs f hf0 hff hf1 A2 R2 hA2 hR2 hA2s hR2s 0 (expoN_of_none hx) (by omega) (by omega) w hg
  | some p =>
   obtain ⟨en, x⟩ := p; rw [core_good _ _ _ _ x en (by rw [hd]; exact hnb) hF hx]; have hal : AllDig A2.data.toList := hAD; rw [hd, hAF]; generalize hL : (⟨(Lib.trimLeftB A2.data.toList 48).toArray⟩ : ByteArray) = L; generalize hT : (⟨(Lib.trimRightB L.data.toList 48).toArray⟩ : ByteArray) = T; have hLl : Lib.trimLeftB A2.data.toList 48 = L.data.toList := by rw [← hL]
   have hTl : Lib.trimRightB L.data.toList 48 = T.data.toList := by rw [← hT]
   obtain ⟨g1, g2, g3, g4, g5, g6⟩ := trim_val _ hal _ _ hLl hTl; have hLs : L.size ≤ A2.size := by rw [size_list, size_list]; exact g1
   have hTs : T.size ≤ L.size := by rw [size_list, size_list]; exact g2
   have e0 := sg_lo en x; have e1 := sg_hi en x; have he := expoN_of_some hx; by_cases hT0 : T.data.toList = []
   ·rw [g5 hT0, norm_zero]
    exact parse_Eof s hs hp d hd h1 h01 hzf hz A R hA hR hAs hRs hr hR1 S hS hSs f hf0 hff hf1 A2 R2 hA2 hR2 hA2s hR2s _ he e0 e1 L T hL hT hLs hTs (empty_list T hT0) w hg
   obtain ⟨g7, g8⟩ := g6 hT0; have hTe := isEmpty_list T hT0; have hT1 : 0 < T.size := by
    rw [size_list]; cases h2 : T.data.toList with
    | nil => exact absurd h2 hT0
    | cons _ _ => simp
   rw [g4, norm_shift]; by_cases h18 : 18 < T.size
   ·have g9 : 10 ^ 18 ≤ 10 ^ (T.data.toList.length - 1) := Nat.pow_le_pow_right (by omega) (by rw [← size_list]; omega)
    rw [norm_eleven _ _ _ g7 (by omega)]; exact parse_Fof s hs hp d hd h1 h01 hzf hz A R hA hR hAs hRs hr hR1 S hS hSs f hf0 hff hf1 A2 R2 hA2 hR2 hA2s hR2s _ he e0 e1 L T hL hT hLs hTs hTe h18 w hg
   have q := parse_Gof s hs hp d hd h1 h01 hzf hz A R hA hR hAs hRs hr hR1 S hS hSs f hf0 hff hf1 A2 R2 hA2 hR2 hA2s hR2s _ he e0 e1 L T hL hT hLs hTs hTe hT1 (by omega) (allDig_get T g3) w hg; rw [← size_list, ← size_list, show sg en (clampN x) - (F.length : Int) + ((L.size - T.size : Nat) : Int) = (sg en (clampN x) - f) + L.size - T.size by rw [hFn]; omega]; exact q
 have hr : Lib.hasPrefix R.data.toList [46] = false := by simpa using hr
 have hF : fracP (s.data.toList.drop (nDig s.data.toList)) = some ([], R.data.toList) := by
  rw [hd, ← hRl]; unfold fracP; rw [if_neg (head_not_pre hr)]
 have hAF : s.data.toList.take d ++ [] = A.data.toList := by rw [hAl, List.append_nil]
 have hAD := hAd; have hFn : ((([] : List UInt8).length : Nat) : Int) = 0 := rfl; cases hx : expoP R.data.toList with
 | none =>
  rw [core_expo _ _ _ _ hF hx]; exact parse_Do s hs hp d hd h1 h01 hzf hz A R hA hR hAs hRs hr 0 (expoN_of_none hx) (by omega) (by omega) w hg
 | some p =>
  obtain ⟨en, x⟩ := p; rw [core_good _ _ _ _ x en (by rw [hd]; exact hnb) hF hx]; have hal : AllDig A.data.toList := hAD; rw [hd, hAF]; generalize hL : (⟨(Lib.trimLeftB A.data.toList 48).toArray⟩ : ByteArray) = L; generalize hT : (⟨(Lib.trimRightB L.data.toList 48).toArray⟩ : ByteArray) = T; have hLl : Lib.trimLeftB A.data.toList 48 = L.data.toList := by rw [← hL]
  have hTl : Lib.trimRightB L.data.toList 48 = T.data.toList := by rw [← hT]
  obtain ⟨g1, g2, g3, g4, g5, g6⟩ := trim_val _ hal _ _ hLl hTl; have hLs : L.size ≤ A.size := by rw [size_list, size_list]; exact g1
  have hTs : T.size ≤ L.size := by rw [size_list, size_list]; exact g2
  have e0 := sg_lo en x; have e1 := sg_hi en x; have he := expoN_of_some hx; by_cases hT0 : T.data.toList = []
  ·rw [g5 hT0, norm_zero]
   exact parse_Eo s hs hp d hd h1 h01 hzf hz A R hA hR hAs hRs hr _ he e0 e1 L T hL hT hLs hTs (empty_list T hT0) w hg
  obtain ⟨g7, g8⟩ := g6 hT0; have hTe := isEmpty_list T hT0; have hT1 : 0 < T.size := by
   rw [size_list]; cases h2 : T.data.toList with
   | nil => exact absurd h2 hT0
   | cons _ _ => simp
  rw [g4, norm_shift]; by_cases h18 : 18 < T.size
  ·have g9 : 10 ^ 18 ≤ 10 ^ (T.data.toList.length - 1) := Nat.pow_le_pow_right (by omega) (by rw [← size_list]; omega)
   rw [norm_eleven _ _ _ g7 (by omega)]; exact parse_Fo s hs hp d hd h1 h01 hzf hz A R hA hR hAs hRs hr _ he e0 e1 L T hL hT hLs hTs hTe h18 w hg
  have q := parse_Go s hs hp d hd h1 h01 hzf hz A R hA hR hAs hRs hr _ he e0 e1 L T hL hT hLs hTs hTe hT1 (by omega) (allDig_get T g3) w hg; rw [← size_list, ← size_list, show sg en (clampN x) - ((([] : List UInt8).length : Nat) : Int) + ((L.size - T.size : Nat) : Int) = sg en (clampN x) + L.size - T.size by rw [hFn]; omega]; exact q
/-- a text without a sign -/
theorem num_ParseO (s : ByteArray) (hs : s.size ≤ 2305843009213693952) (h : s.data.toList.head? ≠ some 45) (w : World) (hg : Glob w) :
  Calls Tryz.prog 150 #[.string s] w fun r w' => r = .returned (numRes (parseN s.data.toList)) ∧ Below w.heap.size w w' := by
 unfold parseN; rw [if_neg h]; refine parse_core_o s hs ?_ w hg; cases hp : Lib.hasPrefix s.data.toList [45] with
 | false => rfl
 | true => exact absurd (head_of_pre hp) h
end Go.Proofs.YtakncilicoefdaaGreatDoor
