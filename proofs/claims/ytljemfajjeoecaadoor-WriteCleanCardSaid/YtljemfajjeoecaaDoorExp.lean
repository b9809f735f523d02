/- num.exponent. Conditions: the text is no longer than texts are. -/
import Derived.Test.YtljemfajjeoecaaDoorNumB
import Derived.Test.YtljemfajjeoecaaDoorLib
namespace Go.Proofs.YtljemfajjeoecaaDoor
open Go Go.RowKit Go.Proofs Th
attribute [local go_sem] Above.cell Above.frozen

theorem drop1 (s : ByteArray) : (s.extract 1 s.size).data.toList = s.data.toList.drop 1 := by
  rw [Lib.extract_data, List.take_of_length_le]
  simp
theorem size_drop1 (s : ByteArray) : (s.extract 1 s.size).size = s.size - 1 := by simp
def expRes (p : Int × Bool) : Value := .tuple #[.int .i64 p.1, .bool p.2]
def expoN (l : List UInt8) : Int × Bool := match expoP l with | none => (0, false) | some (neg, u) => (sg neg (clampN u), true)
theorem ret_exp {p : Int × Bool} {a : Int} {c : Bool} (h : p = (a, c)) : Ending.returned (.tuple #[.int .i64 a, .bool c]) = .returned (expRes p) := by rw [h]; rfl
theorem hasP (c : UInt8) (l : List UInt8) (d : UInt8) : Lib.hasPrefix (c :: l) [d] = (d == c) := by simp [Lib.hasPrefix, List.isPrefixOf]
theorem hasP_nil (d : UInt8) : Lib.hasPrefix [] [d] = false := rfl

theorem exp_nil (w : World) : Calls Tryd.prog 56 #[.string ⟨#[]⟩] w fun r w' => r = .returned (expRes (0, true)) ∧ Below w.heap.size w w' := by
  go_enter Tryd.func56, Tryd.ntmps56
  go_wp2
  go_ret2
  exact ⟨rfl, Below.refl _ _⟩

theorem exp_other (s : ByteArray) (hs0 : 0 < s.size) (h1 : (s[0].toNat : Int) ≠ 101) (h2 : (s[0].toNat : Int) ≠ 69) (w : World) : Calls Tryd.prog 56 #[.string s] w fun r w' => r = .returned (expRes (0, false)) ∧ Below w.heap.size w w' := by
  have h1' : ((s[0].toNat : Int) != 101) = true := by simpa using h1
  have h2' : ((s[0].toNat : Int) != 69) = true := by simpa using h2
  have he : s.toList.isEmpty = false := by
    have : s.toList.length = s.size := by simp [ByteArray.toList_eq]
    cases hh : s.toList with
    | nil => rw [hh] at this; simp at this; omega
    | cons _ _ => rfl
  clear h1 h2
  go_enter Tryd.func56, Tryd.ntmps56
  go_wp2
  go_ret2
  exact ⟨rfl, Below.refl _ _⟩

theorem isEmpty_of {s : ByteArray} (h : 0 < s.size) : s.toList.isEmpty = false := by
  have : s.toList.length = s.size := by simp [ByteArray.toList_eq]
  cases hh : s.toList with
  | nil => rw [hh] at this; simp at this; omega
  | cons _ _ => rfl

/-- all are digits -/
theorem all_dig (U : ByteArray) (h : nDig U.data.toList = U.size) (k : Nat) (hk : k < U.size) : 48 ≤ U[k].toNat ∧ U[k].toNat ≤ 57 :=
  nDig_get U.data.toList k (by simpa using hk) (by omega)
theorem clamp_take (U : ByteArray) (k : Nat) (hk : k < U.size) : clampN (U.data.toList.take (k + 1)) = min (clampN (U.data.toList.take k) * 10 + dg U[k]) 1099511627776 := by
  rw [List.take_succ_eq_append_getElem (by simpa using hk), clampN_snoc]; rfl

set_option maxRecDepth 100000 in
theorem exp_n0 (s : ByteArray) (hs : s.size ≤ 4611686018427387904) (hs0 : 0 < s.size) (h1 : ((s[0].toNat : Int) != 101) = false ∨ (((s[0].toNat : Int) != 101) = true ∧ ((s[0].toNat : Int) != 69) = false)) (T : ByteArray) (hT : s.extract 1 s.size = T) (U : ByteArray) (hU : T.extract 1 T.size = U) (hT1 : 0 < T.size) (hp : Lib.hasPrefix T.data.toList [45] = true) (hsz : U.size ≤ 9223372036854775807) (hn : ((nDig U.data.toList : Int) == 0) = true ∨ (((nDig U.data.toList : Int) == 0) = false ∧ (nDig U.data.toList : Int) < U.size)) (HX : Keep (expoN s.data.toList = (0, false))) (w : World) :
    Calls Tryd.prog 56 #[.string s] w fun r w' => r = .returned (expRes (expoN s.data.toList)) ∧ Below w.heap.size w w' := by
  have he := isEmpty_of hs0
  have HT := Keep.mk hT
  clear hT
  have HU := Keep.mk hU
  clear hU
  have BB0 := Below.refl w.heap.size w
  rcases h1 with h1 | ⟨h1, h2⟩
  all_goals
    rcases hn with hn | ⟨hn, hn2⟩
  all_goals
    go_enter Tryd.func56, Tryd.ntmps56
    go_wp2_with fail
    rw [HT.out]
    refine (hasPrefix T ⟨#[45]⟩ _).mono ?_
    rw [hp]
    rintro r w1 ⟨rfl, hb1⟩
    go_wp2_with fail
    rw [HU.out]
    have BB := hb1
    go_wp2_with fail
    refine (num_digits U hsz _).mono ?_
    rintro r w9 ⟨rfl, hb9⟩
    go_wp2
    go_ret2
    exact ⟨ret_exp HX.out, BB.trans (hb9.mono BB.size)⟩

set_option maxRecDepth 100000 in
theorem exp_n1 (s : ByteArray) (hs : s.size ≤ 4611686018427387904) (hs0 : 0 < s.size) (h1 : ((s[0].toNat : Int) != 101) = false ∨ (((s[0].toNat : Int) != 101) = true ∧ ((s[0].toNat : Int) != 69) = false)) (T : ByteArray) (hT : s.extract 1 s.size = T) (U : ByteArray) (hU : T.extract 1 T.size = U) (hT1 : 0 < T.size) (hp : Lib.hasPrefix T.data.toList [45] = true) (hsz : U.size ≤ 9223372036854775807) (hn : ((nDig U.data.toList : Int) == 0) = false) (hn2 : ¬ (nDig U.data.toList : Int) < U.size) (HD : Keep (∀ k (hk : k < U.size), 48 ≤ U[k].toNat ∧ U[k].toNat ≤ 57)) (HX : Keep (expoN s.data.toList = (sg true (clampN U.data.toList), true))) (w : World) :
    Calls Tryd.prog 56 #[.string s] w fun r w' => r = .returned (expRes (expoN s.data.toList)) ∧ Below w.heap.size w w' := by
  have he := isEmpty_of hs0
  have HT := Keep.mk hT
  clear hT
  have HU := Keep.mk hU
  clear hU
  have BB0 := Below.refl w.heap.size w
  rcases h1 with h1 | ⟨h1, h2⟩
  all_goals
    go_enter Tryd.func56, Tryd.ntmps56
    go_wp2_with fail
    rw [HT.out]
    refine (hasPrefix T ⟨#[45]⟩ _).mono ?_
    rw [hp]
    rintro r w1 ⟨rfl, hb1⟩
    go_wp2_with fail
    rw [HU.out]
    have BB := hb1
    go_wp2_with fail
    refine (num_digits U hsz _).mono ?_
    rintro r w9 ⟨rfl, hb9⟩
    go_wp2_with fail
    go_loop [6, 41] (fun e i => ∃ k : Nat, k ≤ U.size ∧ i = .int .i64 k ∧ e = .int .i64 (clampN (U.data.toList.take k))) (fun _ i => U.size - (intOf i).toNat)
    case atStart => exact ⟨0, Nat.zero_le _, rfl, rfl⟩
    case round =>
      obtain ⟨k, hk, rfl, rfl⟩ := hrel
      have hcl := clampN_le (U.data.toList.take k)
      by_cases hlt : k < U.size
      · have hdk := HD.out k hlt
        obtain ⟨hd1, hd2⟩ := hdk
        have HS := Keep.mk (clamp_take U k hlt)
        go_wp2
        refine ⟨⟨k + 1, by omega, by go_num, ?_⟩, by simp [intOf]; omega⟩
        rw [HS.out]
        congr 1; unfold dg; omega
      · have hk2 : k = U.size := by omega
        have HS := Keep.mk (show U.data.toList.take k = U.data.toList by rw [List.take_of_length_le]; simp; omega)
        clear hk2
        go_wp2
        go_ret2
        exact ⟨ret_exp (by rw [HX.out, HS.out]; rfl), BB.trans (hb9.mono BB.size)⟩

set_option maxRecDepth 100000 in
theorem exp_p0 (s : ByteArray) (hs : s.size ≤ 4611686018427387904) (hs0 : 0 < s.size) (h1 : ((s[0].toNat : Int) != 101) = false ∨ (((s[0].toNat : Int) != 101) = true ∧ ((s[0].toNat : Int) != 69) = false)) (T : ByteArray) (hT : s.extract 1 s.size = T) (U : ByteArray) (hU : T.extract 1 T.size = U) (hT1 : 0 < T.size) (hp : Lib.hasPrefix T.data.toList [45] = false) (hp2 : Lib.hasPrefix T.data.toList [43] = true) (hsz : U.size ≤ 9223372036854775807) (hn : ((nDig U.data.toList : Int) == 0) = true ∨ (((nDig U.data.toList : Int) == 0) = false ∧ (nDig U.data.toList : Int) < U.size)) (HX : Keep (expoN s.data.toList = (0, false))) (w : World) :
    Calls Tryd.prog 56 #[.string s] w fun r w' => r = .returned (expRes (expoN s.data.toList)) ∧ Below w.heap.size w w' := by
  have he := isEmpty_of hs0
  have HT := Keep.mk hT
  clear hT
  have HU := Keep.mk hU
  clear hU
  have BB0 := Below.refl w.heap.size w
  rcases h1 with h1 | ⟨h1, h2⟩
  all_goals
    rcases hn with hn | ⟨hn, hn2⟩
  all_goals
    go_enter Tryd.func56, Tryd.ntmps56
    go_wp2_with fail
    rw [HT.out]
    refine (hasPrefix T ⟨#[45]⟩ _).mono ?_
    rw [hp]
    rintro r w1 ⟨rfl, hb1⟩
    go_wp2_with fail
    refine (hasPrefix T ⟨#[43]⟩ _).mono ?_
    rw [hp2]
    rintro r w2 ⟨rfl, hb2⟩
    have BB := hb1.trans (hb2.mono hb1.size)
    go_wp2_with fail
    rw [HU.out]
    go_wp2_with fail
    refine (num_digits U hsz _).mono ?_
    rintro r w9 ⟨rfl, hb9⟩
    go_wp2
    go_ret2
    exact ⟨ret_exp HX.out, BB.trans (hb9.mono BB.size)⟩

set_option maxRecDepth 100000 in
theorem exp_p1 (s : ByteArray) (hs : s.size ≤ 4611686018427387904) (hs0 : 0 < s.size) (h1 : ((s[0].toNat : Int) != 101) = false ∨ (((s[0].toNat : Int) != 101) = true ∧ ((s[0].toNat : Int) != 69) = false)) (T : ByteArray) (hT : s.extract 1 s.size = T) (U : ByteArray) (hU : T.extract 1 T.size = U) (hT1 : 0 < T.size) (hp : Lib.hasPrefix T.data.toList [45] = false) (hp2 : Lib.hasPrefix T.data.toList [43] = true) (hsz : U.size ≤ 9223372036854775807) (hn : ((nDig U.data.toList : Int) == 0) = false) (hn2 : ¬ (nDig U.data.toList : Int) < U.size) (HD : Keep (∀ k (hk : k < U.size), 48 ≤ U[k].toNat ∧ U[k].toNat ≤ 57)) (HX : Keep (expoN s.data.toList = (sg false (clampN U.data.toList), true))) (w : World) :
    Calls Tryd.prog 56 #[.string s] w fun r w' => r = .returned (expRes (expoN s.data.toList)) ∧ Below w.heap.size w w' := by
  have he := isEmpty_of hs0
  have HT := Keep.mk hT
  clear hT
  have HU := Keep.mk hU
  clear hU
  have BB0 := Below.refl w.heap.size w
  rcases h1 with h1 | ⟨h1, h2⟩
  all_goals
    go_enter Tryd.func56, Tryd.ntmps56
    go_wp2_with fail
    rw [HT.out]
    refine (hasPrefix T ⟨#[45]⟩ _).mono ?_
    rw [hp]
    rintro r w1 ⟨rfl, hb1⟩
    go_wp2_with fail
    refine (hasPrefix T ⟨#[43]⟩ _).mono ?_
    rw [hp2]
    rintro r w2 ⟨rfl, hb2⟩
    have BB := hb1.trans (hb2.mono hb1.size)
    go_wp2_with fail
    rw [HU.out]
    go_wp2_with fail
    refine (num_digits U hsz _).mono ?_
    rintro r w9 ⟨rfl, hb9⟩
    go_wp2_with fail
    go_loop [6, 41] (fun e i => ∃ k : Nat, k ≤ U.size ∧ i = .int .i64 k ∧ e = .int .i64 (clampN (U.data.toList.take k))) (fun _ i => U.size - (intOf i).toNat)
    case atStart => exact ⟨0, Nat.zero_le _, rfl, rfl⟩
    case round =>
      obtain ⟨k, hk, rfl, rfl⟩ := hrel
      have hcl := clampN_le (U.data.toList.take k)
      by_cases hlt : k < U.size
      · have hdk := HD.out k hlt
        obtain ⟨hd1, hd2⟩ := hdk
        have HS := Keep.mk (clamp_take U k hlt)
        go_wp2
        refine ⟨⟨k + 1, by omega, by go_num, ?_⟩, by simp [intOf]; omega⟩
        rw [HS.out]
        congr 1; unfold dg; omega
      · have hk2 : k = U.size := by omega
        have HS := Keep.mk (show U.data.toList.take k = U.data.toList by rw [List.take_of_length_le]; simp; omega)
        clear hk2
        go_wp2
        go_ret2
        exact ⟨ret_exp (by rw [HX.out, HS.out]; rfl), BB.trans (hb9.mono BB.size)⟩

set_option maxRecDepth 100000 in
theorem exp_o0 (s : ByteArray) (hs : s.size ≤ 4611686018427387904) (hs0 : 0 < s.size) (h1 : ((s[0].toNat : Int) != 101) = false ∨ (((s[0].toNat : Int) != 101) = true ∧ ((s[0].toNat : Int) != 69) = false)) (T : ByteArray) (hT : s.extract 1 s.size = T) (hp : Lib.hasPrefix T.data.toList [45] = false) (hp2 : Lib.hasPrefix T.data.toList [43] = false) (hsz : T.size ≤ 9223372036854775807) (hn : ((nDig T.data.toList : Int) == 0) = true ∨ (((nDig T.data.toList : Int) == 0) = false ∧ (nDig T.data.toList : Int) < T.size)) (HX : Keep (expoN s.data.toList = (0, false))) (w : World) :
    Calls Tryd.prog 56 #[.string s] w fun r w' => r = .returned (expRes (expoN s.data.toList)) ∧ Below w.heap.size w w' := by
  have he := isEmpty_of hs0
  have HT := Keep.mk hT
  clear hT
  have BB0 := Below.refl w.heap.size w
  rcases h1 with h1 | ⟨h1, h2⟩
  all_goals
    rcases hn with hn | ⟨hn, hn2⟩
  all_goals
    go_enter Tryd.func56, Tryd.ntmps56
    go_wp2_with fail
    rw [HT.out]
    refine (hasPrefix T ⟨#[45]⟩ _).mono ?_
    rw [hp]
    rintro r w1 ⟨rfl, hb1⟩
    go_wp2_with fail
    refine (hasPrefix T ⟨#[43]⟩ _).mono ?_
    rw [hp2]
    rintro r w2 ⟨rfl, hb2⟩
    have BB := hb1.trans (hb2.mono hb1.size)
    go_wp2_with fail
    refine (num_digits T hsz _).mono ?_
    rintro r w9 ⟨rfl, hb9⟩
    go_wp2
    go_ret2
    exact ⟨ret_exp HX.out, BB.trans (hb9.mono BB.size)⟩

set_option maxRecDepth 100000 in
theorem exp_o1 (s : ByteArray) (hs : s.size ≤ 4611686018427387904) (hs0 : 0 < s.size) (h1 : ((s[0].toNat : Int) != 101) = false ∨ (((s[0].toNat : Int) != 101) = true ∧ ((s[0].toNat : Int) != 69) = false)) (T : ByteArray) (hT : s.extract 1 s.size = T) (hp : Lib.hasPrefix T.data.toList [45] = false) (hp2 : Lib.hasPrefix T.data.toList [43] = false) (hsz : T.size ≤ 9223372036854775807) (hn : ((nDig T.data.toList : Int) == 0) = false) (hn2 : ¬ (nDig T.data.toList : Int) < T.size) (HD : Keep (∀ k (hk : k < T.size), 48 ≤ T[k].toNat ∧ T[k].toNat ≤ 57)) (HX : Keep (expoN s.data.toList = (sg false (clampN T.data.toList), true))) (w : World) :
    Calls Tryd.prog 56 #[.string s] w fun r w' => r = .returned (expRes (expoN s.data.toList)) ∧ Below w.heap.size w w' := by
  have he := isEmpty_of hs0
  have HT := Keep.mk hT
  clear hT
  have BB0 := Below.refl w.heap.size w
  rcases h1 with h1 | ⟨h1, h2⟩
  all_goals
    go_enter Tryd.func56, Tryd.ntmps56
    go_wp2_with fail
    rw [HT.out]
    refine (hasPrefix T ⟨#[45]⟩ _).mono ?_
    rw [hp]
    rintro r w1 ⟨rfl, hb1⟩
    go_wp2_with fail
    refine (hasPrefix T ⟨#[43]⟩ _).mono ?_
    rw [hp2]
    rintro r w2 ⟨rfl, hb2⟩
    have BB := hb1.trans (hb2.mono hb1.size)
    go_wp2_with fail
    refine (num_digits T hsz _).mono ?_
    rintro r w9 ⟨rfl, hb9⟩
    go_wp2_with fail
    go_loop [6, 41] (fun e i => ∃ k : Nat, k ≤ T.size ∧ i = .int .i64 k ∧ e = .int .i64 (clampN (T.data.toList.take k))) (fun _ i => T.size - (intOf i).toNat)
    case atStart => exact ⟨0, Nat.zero_le _, rfl, rfl⟩
    case round =>
      obtain ⟨k, hk, rfl, rfl⟩ := hrel
      have hcl := clampN_le (T.data.toList.take k)
      by_cases hlt : k < T.size
      · have hdk := HD.out k hlt
        obtain ⟨hd1, hd2⟩ := hdk
        have HS := Keep.mk (clamp_take T k hlt)
        go_wp2
        refine ⟨⟨k + 1, by omega, by go_num, ?_⟩, by simp [intOf]; omega⟩
        rw [HS.out]
        congr 1; unfold dg; omega
      · have hk2 : k = T.size := by omega
        have HS := Keep.mk (show T.data.toList.take k = T.data.toList by rw [List.take_of_length_le]; simp; omega)
        clear hk2
        go_wp2
        go_ret2
        exact ⟨ret_exp (by rw [HX.out, HS.out]; rfl), BB.trans (hb9.mono BB.size)⟩


theorem pre_of {l : List UInt8} {c : UInt8} (h : Lib.hasPrefix l [c] = true) : l = c :: l.drop 1 := by
  cases l with
  | nil => simp [hasP_nil] at h
  | cons d l => rw [hasP] at h; simp at h; simp [h]
theorem not_pre {d : UInt8} {l : List UInt8} {c : UInt8} (h : Lib.hasPrefix (d :: l) [c] = false) : d ≠ c := by
  rw [hasP] at h; simp at h; exact fun hh => h hh.symm
def fits (neg : Bool) (u : List UInt8) : Int × Bool := if nDig u = 0 ∨ nDig u < u.length then (0, false) else (sg neg (clampN u), true)
theorem fits_eq (neg : Bool) (u : List UInt8) : (match chkE neg u with | none => ((0, false) : Int × Bool) | some (neg, u) => (sg neg (clampN u), true)) = fits neg u := by
  unfold fits chkE; split <;> rename_i h <;> split at h <;> simp_all
theorem expoN_neg {c : UInt8} (hc : c = 101 ∨ c = 69) (u : List UInt8) : expoN (c :: 45 :: u) = fits true u := by
  rw [← fits_eq]; unfold expoN expoP; simp [hc]
theorem expoN_pos {c : UInt8} (hc : c = 101 ∨ c = 69) (u : List UInt8) : expoN (c :: 43 :: u) = fits false u := by
  rw [← fits_eq]; unfold expoN expoP; simp [hc]
theorem expoN_none {c : UInt8} (hc : c = 101 ∨ c = 69) (t : List UInt8) (h1 : Lib.hasPrefix t [45] = false) (h2 : Lib.hasPrefix t [43] = false) : expoN (c :: t) = fits false t := by
  rw [← fits_eq]; unfold expoN expoP
  cases t with
  | nil => simp [hc]
  | cons d t =>
    have g1 := not_pre h1
    have g2 := not_pre h2
    simp [hc, g1, g2]
theorem fits_no {neg : Bool} {u : List UInt8} (h : nDig u = 0 ∨ nDig u < u.length) : fits neg u = (0, false) := by unfold fits; rw [if_pos h]
theorem fits_yes {neg : Bool} {u : List UInt8} (h1 : ¬ nDig u = 0) (h2 : ¬ nDig u < u.length) : fits neg u = (sg neg (clampN u), true) := by unfold fits; rw [if_neg (by omega)]

/-- what an exponent's text says -/
theorem num_exponent (s : ByteArray) (hs : s.size ≤ 4611686018427387904) (w : World) :
    Calls Tryd.prog 56 #[.string s] w fun r w' => r = .returned (expRes (expoN s.data.toList)) ∧ Below w.heap.size w w' := by
  by_cases hs0 : 0 < s.size
  case neg =>
    have : s = ⟨#[]⟩ := by
      obtain ⟨⟨l⟩⟩ := s
      have : l = [] := by cases l with | nil => rfl | cons _ _ => simp [ByteArray.size] at hs0
      rw [this]
    subst this
    exact exp_nil w
  have hl : s.data.toList = s[0] :: s.data.toList.drop 1 := by
    have hlen : 0 < s.data.toList.length := by simpa using hs0
    have := List.drop_eq_getElem_cons hlen
    rw [List.drop_zero] at this
    exact this
  by_cases hc : s[0] = 101 ∨ s[0] = 69
  case neg =>
    have hr : expoN s.data.toList = (0, false) := by
      rw [hl]; unfold expoN expoP; simp [hc]
    have q := exp_other s hs0 (fun h => hc (.inl (UInt8.toNat.inj (by simpa using (by exact_mod_cast h : s[0].toNat = 101))))) (fun h => hc (.inr (UInt8.toNat.inj (by simpa using (by exact_mod_cast h : s[0].toNat = 69))))) w
    rw [← hr] at q
    exact q
  have h1 : ((s[0].toNat : Int) != 101) = false ∨ (((s[0].toNat : Int) != 101) = true ∧ ((s[0].toNat : Int) != 69) = false) := by
    rcases hc with hc | hc <;> rw [hc] <;> decide
  generalize hT : s.extract 1 s.size = T
  have hTl : T.data.toList = s.data.toList.drop 1 := by rw [← hT, drop1]
  have hTs : T.size = s.size - 1 := by rw [← hT, size_drop1]
  rw [← hTl] at hl
  have hlen : T.data.toList.length = T.size := by simp
  have key (U : ByteArray) (neg : Bool) : ((nDig U.data.toList : Int) == 0) = true ∨ (((nDig U.data.toList : Int) == 0) = false ∧ (nDig U.data.toList : Int) < U.size) ∨ (((nDig U.data.toList : Int) == 0) = false ∧ ¬ (nDig U.data.toList : Int) < U.size) := by
    cases h : ((nDig U.data.toList : Int) == 0)
    · by_cases h2 : (nDig U.data.toList : Int) < U.size
      · exact .inr (.inl ⟨rfl, h2⟩)
      · exact .inr (.inr ⟨rfl, h2⟩)
    · exact .inl rfl
  have zero (U : ByteArray) (h : ((nDig U.data.toList : Int) == 0) = true) : nDig U.data.toList = 0 := by simpa using h
  have nzero (U : ByteArray) (h : ((nDig U.data.toList : Int) == 0) = false) : ¬ nDig U.data.toList = 0 := by simpa using h
  have less (U : ByteArray) (h : (nDig U.data.toList : Int) < U.size) : nDig U.data.toList < U.data.toList.length := by simpa using h
  have nless (U : ByteArray) (h : ¬ (nDig U.data.toList : Int) < U.size) : ¬ nDig U.data.toList < U.data.toList.length := by simpa using h
  have dgt (U : ByteArray) (h : ¬ (nDig U.data.toList : Int) < U.size) : Keep (∀ k (hk : k < U.size), 48 ≤ U[k].toNat ∧ U[k].toNat ≤ 57) := by
    refine ⟨fun k hk => all_dig U ?_ k hk⟩
    have := nDig_le U.data.toList
    have := nless U h
    simp at *; omega
  by_cases hp : Lib.hasPrefix T.data.toList [45] = true
  · have hT1 : 0 < T.size := by
      have := congrArg List.length (pre_of hp); simp at this; omega
    generalize hU : T.extract 1 T.size = U
    have hUl : U.data.toList = T.data.toList.drop 1 := by rw [← hU, drop1]
    have hUs : U.size = T.size - 1 := by rw [← hU, size_drop1]
    have hX : expoN s.data.toList = fits true U.data.toList := by rw [hl, pre_of hp, ← hUl]; exact expoN_neg hc _
    have hsz : U.size ≤ 9223372036854775807 := by omega
    rcases key U true with h | h | h
    · exact exp_n0 s hs hs0 h1 T hT U hU hT1 hp hsz (.inl h) ⟨by rw [hX, fits_no (.inl (zero U h))]⟩ w
    · exact exp_n0 s hs hs0 h1 T hT U hU hT1 hp hsz (.inr h) ⟨by rw [hX, fits_no (.inr (less U h.2))]⟩ w
    · exact exp_n1 s hs hs0 h1 T hT U hU hT1 hp hsz h.1 h.2 (dgt U h.2) ⟨by rw [hX, fits_yes (nzero U h.1) (nless U h.2)]⟩ w
  have hp : Lib.hasPrefix T.data.toList [45] = false := by simpa using hp
  by_cases hp2 : Lib.hasPrefix T.data.toList [43] = true
  · have hT1 : 0 < T.size := by
      have := congrArg List.length (pre_of hp2); simp at this; omega
    generalize hU : T.extract 1 T.size = U
    have hUl : U.data.toList = T.data.toList.drop 1 := by rw [← hU, drop1]
    have hUs : U.size = T.size - 1 := by rw [← hU, size_drop1]
    have hX : expoN s.data.toList = fits false U.data.toList := by rw [hl, pre_of hp2, ← hUl]; exact expoN_pos hc _
    have hsz : U.size ≤ 9223372036854775807 := by omega
    rcases key U true with h | h | h
    · exact exp_p0 s hs hs0 h1 T hT U hU hT1 hp hp2 hsz (.inl h) ⟨by rw [hX, fits_no (.inl (zero U h))]⟩ w
    · exact exp_p0 s hs hs0 h1 T hT U hU hT1 hp hp2 hsz (.inr h) ⟨by rw [hX, fits_no (.inr (less U h.2))]⟩ w
    · exact exp_p1 s hs hs0 h1 T hT U hU hT1 hp hp2 hsz h.1 h.2 (dgt U h.2) ⟨by rw [hX, fits_yes (nzero U h.1) (nless U h.2)]⟩ w
  have hp2 : Lib.hasPrefix T.data.toList [43] = false := by simpa using hp2
  have hX : expoN s.data.toList = fits false T.data.toList := by rw [hl]; exact expoN_none hc _ hp hp2
  have hsz : T.size ≤ 9223372036854775807 := by omega
  rcases key T true with h | h | h
  · exact exp_o0 s hs hs0 h1 T hT hp hp2 hsz (.inl h) ⟨by rw [hX, fits_no (.inl (zero T h))]⟩ w
  · exact exp_o0 s hs hs0 h1 T hT hp hp2 hsz (.inr h) ⟨by rw [hX, fits_no (.inr (less T h.2))]⟩ w
  · exact exp_o1 s hs hs0 h1 T hT hp hp2 hsz h.1 h.2 (dgt T h.2) ⟨by rw [hX, fits_yes (nzero T h.1) (nless T h.2)]⟩ w

end Go.Proofs.YtljemfajjeoecaaDoor
