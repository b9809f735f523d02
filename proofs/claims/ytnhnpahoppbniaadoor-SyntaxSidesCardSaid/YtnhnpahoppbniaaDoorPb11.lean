/- Lemmas and contracts for the laws SyntaxBrackets, SyntaxJoins, SyntaxSides, part 11 of 44: TokB, Toks, SynDep, ScanOne. Conditions: those that each lemma names. -/
import Derived.Test.YtnhnpahoppbniaaDoorPb9
namespace Go.Proofs.YtnhnpahoppbniaaDoor
open Go Go.RowKit Go.Proofs Th
attribute [local go_sem] Above.cell
def signsK : List UInt8 := [32, 124, 61, 32, 43, 61, 32, 45, 61, 32, 42, 61, 32, 47, 61, 32, 61, 61, 32, 33, 61, 32, 60, 61, 32, 62, 61, 32, 47, 47, 32, 46, 46, 32]
theorem signs_has : ∀ l ∈ twoL, Lib.contains signsK (32 :: l ++ [32]) = true := by decide +kernel
def four (l : List UInt8) : Bool := match l with
  | a :: b :: c :: d :: _ => decide (a = 32 ∧ d = 32 ∧ b ≠ 32 ∧ c ≠ 32 → [b, c] ∈ twoL)
  | _ => true
theorem signs_only : ∀ i, i < 35 → four (signsK.drop i) = true := by decide +kernel
theorem signs_iff (b c : UInt8) (hb : b ≠ 32) (hc : c ≠ 32) : Lib.contains signsK [32, b, c, 32] = decide ([b, c] ∈ twoL) := by
  by_cases h : [b, c] ∈ twoL
  · rw [decide_eq_true h]; exact signs_has _ h
  · rw [decide_eq_false h]
    unfold Lib.contains
    rw [decide_eq_false_iff_not]
    intro h0
    rcases Lib.index_spec signsK [32, b, c, 32] with ⟨h1, _⟩ | ⟨i, h1, h2, h3, _⟩
    · rw [h1] at h0; exact absurd h0 (by decide)
    · have h4 := signs_only i (by have : signsK.length = 34 := rfl; omega)
      unfold Lib.occAt at h3
      have h5 := List.isPrefixOf_iff_prefix.1 h3
      obtain ⟨t, ht⟩ := h5
      rw [← ht] at h4
      exact h (of_decide_eq_true h4 ⟨rfl, rfl, hb, hc⟩)
theorem one_index (c : UInt8) : decide (0 ≤ Lib.indexByte oneL c) = decide (c ∈ oneL) := by
  have : ∀ n, n < 256 → decide (0 ≤ Lib.indexByte oneL (UInt8.ofNat n)) = decide (UInt8.ofNat n ∈ oneL) := by decide +kernel
  have h := this c.toNat c.toNat_lt
  simpa using h
theorem sign_three (l : List UInt8) (h : Lib.hasPrefix l [47, 47, 61] = true) : signN l = 3 := by
  obtain ⟨t, ht⟩ := List.isPrefixOf_iff_prefix.1 h
  unfold signN
  rw [if_pos (by rw [← ht]; rfl)]
theorem sign_less (l : List UInt8) (h : Lib.hasPrefix l [47, 47, 61] = false) : ¬ l.take 3 = [47, 47, 61] := by
  intro h2
  have : Lib.hasPrefix l [47, 47, 61] = true := List.isPrefixOf_iff_prefix.2 ⟨l.drop 3, by rw [← h2, List.take_append_drop]⟩
  rw [h] at this; cases this
theorem sign_two {l : List UInt8} (h3 : ¬ l.take 3 = [47, 47, 61]) (h : l.take 2 ∈ twoL) : signN l = 2 := by unfold signN; rw [if_neg h3, if_pos h]
theorem sign_one {c : UInt8} {r : List UInt8} (h3 : ¬ (c :: r).take 3 = [47, 47, 61]) (h : ¬ (c :: r).take 2 ∈ twoL) : signN (c :: r) = if c ∈ oneL then 1 else 0 := by unfold signN; rw [if_neg h3, if_neg h]
theorem two_no32 : ∀ l ∈ twoL, ∀ c ∈ l, c ≠ 32 := by decide
theorem head_two {s : ByteArray} (h : 1 < s.size) : ∃ r, s.data.toList = s[0] :: s[1] :: r := by
  obtain ⟨r, hr⟩ := head_at (s := s) (by omega)
  have hl := size_listU s
  rw [hr, List.length_cons] at hl
  cases hr2 : r with
  | nil => rw [hr2] at hl; simp at hl; omega
  | cons d x =>
    refine ⟨x, ?_⟩
    have : s[1] = s.data.toList[1]'(by rw [size_listU]; exact h) := rfl
    rw [hr, hr2, this]
    congr 2
    simp [hr, hr2]
theorem idx_byte (c : UInt8) (w : World) : Calls Tryd.prog 28 #[.string ⟨#[124, 44, 46, 91, 93, 40, 41, 123, 125, 58, 59, 61, 60, 62, 43, 45, 42, 47, 37, 63]⟩, .int .u8 c.toNat] w fun r w' => ∃ z : Int, r = .returned (.int .i64 z) ∧ w' = w ∧ (0 ≤ z ↔ c ∈ oneL) := by
  refine (Tryd.strings_IndexByte ⟨#[124, 44, 46, 91, 93, 40, 41, 123, 125, 58, 59, 61, 60, 62, 43, 45, 42, 47, 37, 63]⟩ (c.toNat : Int) w).mono ?_
  rintro r w' ⟨rfl, rfl⟩
  refine ⟨_, rfl, rfl, ?_⟩
  have h := one_index c
  have e : ((c.toNat : Int)).toNat.toUInt8 = c := by simp
  rw [e]
  show 0 ≤ Lib.indexByte oneL c ↔ _
  rw [decide_eq_decide] at h
  exact h
theorem cat_two {s : ByteArray} (h1 : 1 < s.size) : (⟨#[32]⟩ ++ s.extract 0 2 ++ ⟨#[32]⟩ : ByteArray).data.toList = ([32, s[0], s[1], 32] : List UInt8) := by
  obtain ⟨r1, hr1⟩ := head_two h1
  rw [ba_append, ba_append, bx_from, hr1]; rfl
def sgB : ByteArray := ⟨#[32, 124, 61, 32, 43, 61, 32, 45, 61, 32, 42, 61, 32, 47, 61, 32, 61, 61, 32, 33, 61, 32, 60, 61, 32, 62, 61, 32, 47, 47, 32, 46, 46, 32]⟩
theorem sgB_size : sgB.size = 34 := rfl
theorem sgB_list : sgB.data.toList = signsK := rfl
theorem has_two {s : ByteArray} (h1 : 1 < s.size) (w : World) (m : Int) (hm : w.cell? ⟨0, 0, none⟩ = some (.int .i64 m)) :
    Calls Tryd.prog 32 #[.string sgB, .string (⟨#[32]⟩ ++ s.extract 0 2 ++ ⟨#[32]⟩)] w fun e w' => e = .returned (.bool (Lib.contains signsK ([32, s[0], s[1], 32] : List UInt8))) ∧ w' = w := by
  have hz : sgB.size < 4294967281 := by rw [sgB_size]; decide
  have hl := sgB_list
  have hc := cat_two h1
  generalize sgB = z at *
  generalize (⟨#[32]⟩ ++ s.extract 0 2 ++ ⟨#[32]⟩ : ByteArray) = y at *
  have h := Tryd.strings_Contains z y m w hz hm
  rw [hl, hc] at h
  exact h
theorem pre_three (s : ByteArray) (b : Bool) (hp : Lib.hasPrefix s.data.toList [47, 47, 61] = b) (w : World) : Calls Tryd.prog 29 #[.string s, .string ⟨#[47, 47, 61]⟩] w fun e w' => e = .returned (.bool b) ∧ w' = w := by
  refine (Tryd.strings_HasPrefix s ⟨#[47, 47, 61]⟩ w).mono ?_
  rintro r w' ⟨rfl, rfl⟩
  exact ⟨congrArg (fun x => Ending.returned (.bool x)) hp, rfl⟩
theorem ne32 {c : UInt8} (h : c ≠ 32) : ¬ (c.toNat : Int) = 32 := by
  intro h2; apply h; apply UInt8.toNat_inj.1; show c.toNat = 32; omega
set_option maxRecDepth 100000 in
theorem sign_slash (s : ByteArray) (w : World) (hp : Lib.hasPrefix s.data.toList [47, 47, 61] = true) : Calls Tryd.prog 24 #[.string s] w fun r w' => r = .returned (.int .i64 (signN s.data.toList : Int)) ∧ w' = w := by
  have HP2 := Keep.mk (pre_three s true hp w)
  have HN := Keep.mk (sign_three _ hp)
  clear hp
  go_enter Tryd.func24, Tryd.ntmps24
  go_wp2_with fail
  refine HP2.out.mono ?_
  rintro r w1 ⟨rfl, rfl⟩
  go_wp2
  go_ret
  exact ⟨by rw [HN.out]; rfl, rfl⟩
set_option maxRecDepth 100000 in
set_option maxHeartbeats 4000000 in
theorem sign_short (s : ByteArray) (h0 : 0 < s.size) (w : World) (h1 : ¬ 1 < s.size) (hp : Lib.hasPrefix s.data.toList [47, 47, 61] = false)
    (hN : signN s.data.toList = if s[0] ∈ oneL then 1 else 0) : Calls Tryd.prog 24 #[.string s] w fun r w' => r = .returned (.int .i64 (signN s.data.toList : Int)) ∧ w' = w := by
  have HP2 := Keep.mk (pre_three s false hp w)
  have HI := Keep.mk (idx_byte s[0] w)
  by_cases ho : s[0] ∈ oneL
  · have HN2 := Keep.mk (show signN s.data.toList = 1 by rw [hN, if_pos ho])
    have HI2 := Keep.mk (show Calls Tryd.prog 28 #[.string ⟨#[124, 44, 46, 91, 93, 40, 41, 123, 125, 58, 59, 61, 60, 62, 43, 45, 42, 47, 37, 63]⟩, .int .u8 s[0].toNat] w fun r w' => ∃ z : Int, r = .returned (.int .i64 z) ∧ 0 ≤ z ∧ w' = w from HI.out.mono fun r w' ⟨z, h1, h2, h3⟩ => ⟨z, h1, h3.2 ho, h2⟩)
    clear HI ho hN hp 
    go_enter Tryd.func24, Tryd.ntmps24
    go_wp2_with fail
    refine HP2.out.mono ?_
    rintro r w1 ⟨rfl, rfl⟩
    go_wp2_with fail
    refine HI2.out.mono ?_
    rintro r w2 ⟨z, rfl, hz, rfl⟩
    go_wp2
    go_ret
    exact ⟨by rw [HN2.out]; rfl, rfl⟩
  · have HN2 := Keep.mk (show signN s.data.toList = 0 by rw [hN, if_neg ho])
    have HI2 := Keep.mk (show Calls Tryd.prog 28 #[.string ⟨#[124, 44, 46, 91, 93, 40, 41, 123, 125, 58, 59, 61, 60, 62, 43, 45, 42, 47, 37, 63]⟩, .int .u8 s[0].toNat] w fun r w' => ∃ z : Int, r = .returned (.int .i64 z) ∧ z < 0 ∧ w' = w from HI.out.mono fun r w' ⟨z, h1, h2, h3⟩ => ⟨z, h1, by rcases Int.lt_or_le z 0 with h | h; exact h; exact absurd (h3.1 h) ho, h2⟩)
    clear HI ho hN hp 
    go_enter Tryd.func24, Tryd.ntmps24
    go_wp2_with fail
    refine HP2.out.mono ?_
    rintro r w1 ⟨rfl, rfl⟩
    go_wp2_with fail
    refine HI2.out.mono ?_
    rintro r w2 ⟨z, rfl, hz, rfl⟩
    go_wp2
    go_ret
    exact ⟨by rw [HN2.out]; rfl, rfl⟩
set_option maxRecDepth 100000 in
set_option maxHeartbeats 4000000 in
theorem sign_miss (s : ByteArray) (h1 : 1 < s.size) (w : World) (m : Int) (hm : w.cell? ⟨0, 0, none⟩ = some (.int .i64 m)) (hb : Lib.contains signsK ([32, s[0], s[1], 32] : List UInt8) = false) (hp : Lib.hasPrefix s.data.toList [47, 47, 61] = false)
    (hN : signN s.data.toList = if s[0] ∈ oneL then 1 else 0) : Calls Tryd.prog 24 #[.string s] w fun r w' => r = .returned (.int .i64 (signN s.data.toList : Int)) ∧ w' = w := by
  have HP2 := Keep.mk (pre_three s false hp w)
  have HI := Keep.mk (idx_byte s[0] w)
  have HC := Keep.mk (has_two h1 w m hm)
  rw [hb] at HC
  by_cases ho : s[0] ∈ oneL
  · have HN2 := Keep.mk (show signN s.data.toList = 1 by rw [hN, if_pos ho])
    have HI2 := Keep.mk (show Calls Tryd.prog 28 #[.string ⟨#[124, 44, 46, 91, 93, 40, 41, 123, 125, 58, 59, 61, 60, 62, 43, 45, 42, 47, 37, 63]⟩, .int .u8 s[0].toNat] w fun r w' => ∃ z : Int, r = .returned (.int .i64 z) ∧ 0 ≤ z ∧ w' = w from HI.out.mono fun r w' ⟨z, h1, h2, h3⟩ => ⟨z, h1, h3.2 ho, h2⟩)
    clear HI ho hN hp hb hm
    go_enter Tryd.func24, Tryd.ntmps24
    go_wp2_with fail
    refine HP2.out.mono ?_
    rintro r w1 ⟨rfl, rfl⟩
    go_wp2_with fail
    refine HC.out.mono ?_
    rintro r w3 ⟨rfl, rfl⟩
    go_wp2_with fail
    refine HI2.out.mono ?_
    rintro r w2 ⟨z, rfl, hz, rfl⟩
    go_wp2
    go_ret
    exact ⟨by rw [HN2.out]; rfl, rfl⟩
  · have HN2 := Keep.mk (show signN s.data.toList = 0 by rw [hN, if_neg ho])
    have HI2 := Keep.mk (show Calls Tryd.prog 28 #[.string ⟨#[124, 44, 46, 91, 93, 40, 41, 123, 125, 58, 59, 61, 60, 62, 43, 45, 42, 47, 37, 63]⟩, .int .u8 s[0].toNat] w fun r w' => ∃ z : Int, r = .returned (.int .i64 z) ∧ z < 0 ∧ w' = w from HI.out.mono fun r w' ⟨z, h1, h2, h3⟩ => ⟨z, h1, by rcases Int.lt_or_le z 0 with h | h; exact h; exact absurd (h3.1 h) ho, h2⟩)
    clear HI ho hN hp hb hm
    go_enter Tryd.func24, Tryd.ntmps24
    go_wp2_with fail
    refine HP2.out.mono ?_
    rintro r w1 ⟨rfl, rfl⟩
    go_wp2_with fail
    refine HC.out.mono ?_
    rintro r w3 ⟨rfl, rfl⟩
    go_wp2_with fail
    refine HI2.out.mono ?_
    rintro r w2 ⟨z, rfl, hz, rfl⟩
    go_wp2
    go_ret
    exact ⟨by rw [HN2.out]; rfl, rfl⟩
set_option maxRecDepth 100000 in
set_option maxHeartbeats 4000000 in
theorem sign_blank (s : ByteArray) (h1 : 1 < s.size) (w : World) (m : Int) (hm : w.cell? ⟨0, 0, none⟩ = some (.int .i64 m)) (hb : Lib.contains signsK ([32, s[0], s[1], 32] : List UInt8) = true) (h32 : s[0] ≠ 32) (h132 : s[1] = 32) (hp : Lib.hasPrefix s.data.toList [47, 47, 61] = false)
    (hN : signN s.data.toList = if s[0] ∈ oneL then 1 else 0) : Calls Tryd.prog 24 #[.string s] w fun r w' => r = .returned (.int .i64 (signN s.data.toList : Int)) ∧ w' = w := by
  have HP2 := Keep.mk (pre_three s false hp w)
  have HI := Keep.mk (idx_byte s[0] w)
  have HC := Keep.mk (has_two h1 w m hm)
  rw [hb] at HC
  have b032 := ne32 h32
  have b132 : (s[1].toNat : Int) = 32 := by rw [h132]; rfl
  by_cases ho : s[0] ∈ oneL
  · have HN2 := Keep.mk (show signN s.data.toList = 1 by rw [hN, if_pos ho])
    have HI2 := Keep.mk (show Calls Tryd.prog 28 #[.string ⟨#[124, 44, 46, 91, 93, 40, 41, 123, 125, 58, 59, 61, 60, 62, 43, 45, 42, 47, 37, 63]⟩, .int .u8 s[0].toNat] w fun r w' => ∃ z : Int, r = .returned (.int .i64 z) ∧ 0 ≤ z ∧ w' = w from HI.out.mono fun r w' ⟨z, h1, h2, h3⟩ => ⟨z, h1, h3.2 ho, h2⟩)
    clear HI ho hN hp hb hm h32 h132
    go_enter Tryd.func24, Tryd.ntmps24
    go_wp2_with fail
    refine HP2.out.mono ?_
    rintro r w1 ⟨rfl, rfl⟩
    go_wp2_with fail
    refine HC.out.mono ?_
    rintro r w3 ⟨rfl, rfl⟩
    go_wp2_with fail
    refine HI2.out.mono ?_
    rintro r w2 ⟨z, rfl, hz, rfl⟩
    go_wp2
    go_ret
    exact ⟨by rw [HN2.out]; rfl, rfl⟩
  · have HN2 := Keep.mk (show signN s.data.toList = 0 by rw [hN, if_neg ho])
    have HI2 := Keep.mk (show Calls Tryd.prog 28 #[.string ⟨#[124, 44, 46, 91, 93, 40, 41, 123, 125, 58, 59, 61, 60, 62, 43, 45, 42, 47, 37, 63]⟩, .int .u8 s[0].toNat] w fun r w' => ∃ z : Int, r = .returned (.int .i64 z) ∧ z < 0 ∧ w' = w from HI.out.mono fun r w' ⟨z, h1, h2, h3⟩ => ⟨z, h1, by rcases Int.lt_or_le z 0 with h | h; exact h; exact absurd (h3.1 h) ho, h2⟩)
    clear HI ho hN hp hb hm h32 h132
    go_enter Tryd.func24, Tryd.ntmps24
    go_wp2_with fail
    refine HP2.out.mono ?_
    rintro r w1 ⟨rfl, rfl⟩
    go_wp2_with fail
    refine HC.out.mono ?_
    rintro r w3 ⟨rfl, rfl⟩
    go_wp2_with fail
    refine HI2.out.mono ?_
    rintro r w2 ⟨z, rfl, hz, rfl⟩
    go_wp2
    go_ret
    exact ⟨by rw [HN2.out]; rfl, rfl⟩
set_option maxRecDepth 100000 in
set_option maxHeartbeats 4000000 in
theorem sign_both (s : ByteArray) (h1 : 1 < s.size) (w : World) (m : Int) (hm : w.cell? ⟨0, 0, none⟩ = some (.int .i64 m)) (hb : Lib.contains signsK ([32, s[0], s[1], 32] : List UInt8) = true) (h32 : s[0] ≠ 32) (h132 : s[1] ≠ 32) (hp : Lib.hasPrefix s.data.toList [47, 47, 61] = false)
    (hN : signN s.data.toList = 2) : Calls Tryd.prog 24 #[.string s] w fun r w' => r = .returned (.int .i64 (signN s.data.toList : Int)) ∧ w' = w := by
  have HP2 := Keep.mk (pre_three s false hp w)
  have HC := Keep.mk (has_two h1 w m hm)
  rw [hb] at HC
  have b032 := ne32 h32
  have b132 := ne32 h132
  have c032 : ((s[0].toNat : Int) != 32) = true := by rw [bne_iff_ne]; exact b032
  have c132 : ((s[1].toNat : Int) != 32) = true := by rw [bne_iff_ne]; exact b132
  have HN := Keep.mk hN
  clear hb hm h32 h132 hp hN
  go_enter Tryd.func24, Tryd.ntmps24
  go_wp2_with fail
  refine HP2.out.mono ?_
  rintro r w1 ⟨rfl, rfl⟩
  go_wp2_with fail
  refine HC.out.mono ?_
  rintro r w3 ⟨rfl, rfl⟩
  go_wp2
  go_ret
  exact ⟨by rw [HN.out]; rfl, rfl⟩
theorem tok_sign (s : ByteArray) (h0 : 0 < s.size) (h32 : s[0] ≠ 32) (w : World) (m : Int) (hm : w.cell? ⟨0, 0, none⟩ = some (.int .i64 m)) : Calls Tryd.prog 24 #[.string s] w fun r w' => r = .returned (.int .i64 (signN s.data.toList : Int)) ∧ w' = w := by
  cases hp : Lib.hasPrefix s.data.toList [47, 47, 61]
  · have h3 := sign_less _ hp
    obtain ⟨r0, hr0⟩ := head_at h0
    have H1 : ¬ s.data.toList.take 2 ∈ twoL → signN s.data.toList = if s[0] ∈ oneL then 1 else 0 := fun h2 => by rw [hr0] at h3 h2 ⊢; exact sign_one h3 h2
    by_cases h1 : 1 < s.size
    · obtain ⟨r1, hr1⟩ := head_two h1
      have htk : s.data.toList.take 2 = [s[0], s[1]] := by rw [hr1]; rfl
      cases hb : Lib.contains signsK ([32, s[0], s[1], 32] : List UInt8)
      · refine sign_miss s h1 w m hm hb hp (H1 fun h => ?_)
        rw [htk] at h
        have := signs_has _ h
        have this : Lib.contains signsK ([32, s[0], s[1], 32] : List UInt8) = true := this
        rw [hb] at this
        cases this
      · by_cases h132 : s[1] = 32
        · exact sign_blank s h1 w m hm hb h32 h132 hp (H1 fun h => by rw [htk] at h; exact two_no32 _ h s[1] (by simp) h132)
        · refine sign_both s h1 w m hm hb h32 h132 hp (sign_two h3 ?_)
          rw [htk]
          rw [signs_iff _ _ h32 h132] at hb
          exact of_decide_eq_true hb
    · exact sign_short s h0 w h1 hp (H1 fun h => by
        have := (two_head _ h).1
        rw [List.length_take, size_listU] at this; omega)
  · exact sign_slash s w hp
end Go.Proofs.YtnhnpahoppbniaaDoor
namespace Go.Proofs.YtnhnpahoppbniaaDoor
open Go Go.RowKit Go.Proofs Th
structure Upd (p : Nat) (w w' : World) : Prop where
  os : w'.os = w.os
  tape : w'.tape = w.tape
  output : w'.output = w.output
  size : w.heap.size ≤ w'.heap.size
  block : ∀ k, k < w.heap.size → k ≠ p → w'.heap[k]? = w.heap[k]?
theorem Upd.refl (p : Nat) (w : World) : Upd p w w := ⟨rfl, rfl, rfl, Nat.le_refl _, fun _ _ _ => rfl⟩
theorem Upd.trans {p : Nat} {a b c : World} (h : Upd p a b) (k : Upd p b c) : Upd p a c :=
  ⟨k.os.trans h.os, k.tape.trans h.tape, k.output.trans h.output, Nat.le_trans h.size k.size, fun i hi hp => (k.block i (Nat.lt_of_lt_of_le hi h.size) hp).trans (h.block i hi hp)⟩
theorem Upd.of {p : Nat} {w w' : World} (h : Below w.heap.size w w') : Upd p w w' := ⟨h.os, h.tape, h.output, h.size, fun k hk _ => h.block k hk⟩
theorem Upd.below {p B : Nat} {w w' : World} (h : Upd p w w') (hB : B ≤ w.heap.size) (hp : B ≤ p) : Below B w w' := ⟨h.os, h.tape, h.output, h.size, fun k hk => h.block k (Nat.lt_of_lt_of_le hk hB) (by omega)⟩
theorem Upd.set (p i : Nat) (w : World) (v : Value) : Upd p w (w.setCell ⟨p, i, none⟩ v) := by
  have h := (Below.refl p w).setCell (p := ⟨p, i, none⟩) (Nat.le_refl _) v
  exact ⟨h.os, h.tape, h.output, h.size, fun k _ hp => Below.heap_setCell w ⟨p, i, none⟩ v k hp⟩
theorem Box.upd {w w' : World} {g p : Nat} {cs : List Value} (h : Box w g cs) (hu : Upd p w w') (hp : g ≠ p) : Box w' g cs := by
  have hb := hu.block g h.lt hp
  refine ⟨fun i v hv => (cell_block hb).trans (h.cell i v hv), fun i => ?_, Nat.lt_of_lt_of_le h.lt hu.size⟩
  have := h.froz i
  unfold World.frozen? at this ⊢
  rw [hb]; exact this
structure ToksIn (W : World) (S : Nat → Prop) (A : Option Addr) (c : Nat) (l : List Tf) : Prop where
  le : l.length ≤ c
  cap : l.length ≤ 100000
  top : c ≤ 9223372036854775807
  small : ∀ t ∈ l, t.text.size ≤ 100000 ∧ t.at_ ≤ 100000
  at_ : 0 < l.length → ∃ g o, A = some ⟨g, o, none⟩ ∧ S g ∧ ∀ j (h : j < l.length), W.cell? ⟨g, o + j * 3, none⟩ = some (.int .i64 (l[j].kind : Int)) ∧ W.cell? ⟨g, o + j * 3 + 1, none⟩ = some (.string l[j].text) ∧ W.cell? ⟨g, o + j * 3 + 2, none⟩ = some (.int .i64 (l[j].at_ : Int))
end Go.Proofs.YtnhnpahoppbniaaDoor
namespace Th
open Go Go.Lib
mutual
/-- a node's depth -/
def depJ : NJ → Nat
  | .mk _ _ _ _ l _ => 1 + depsJ l
def depsJ : List NJ → Nat
  | [] => 0
  | n :: r => max (depJ n) (depsJ r)
end
theorem depsJ_append : ∀ a b, depsJ (a ++ b) = max (depsJ a) (depsJ b)
  | [], b => by rw [List.nil_append, depsJ]; omega
  | x :: r, b => by rw [List.cons_append, depsJ, depsJ, depsJ_append r b]; omega
theorem depsJ_get : ∀ (l : List NJ) (k : Nat) (h : k < l.length), depsJ (l.drop k) = max (depJ l[k]) (depsJ (l.drop (k + 1)))
  | l, k, h => by rw [List.drop_eq_getElem_cons h, depsJ]
end Th
namespace Th
open Go Go.Lib
theorem scanGo_pre (L : List UInt8) : ∀ (n a : Nat) (acc l : List Tf) (x : Nat × Nat), scanGo L n a acc = (l, x) → x.2 = 0 → ∃ m, l = acc ++ m := by
  intro n
  induction n with
  | zero => intro a acc l x h _; simp only [scanGo] at h; injection h with h1 h2; exact ⟨[], by rw [← h1, List.append_nil]⟩
  | succ n ih =>
    intro a acc l x h hx
    simp only [scanGo] at h
    split at h
    · rename_i h1
      injection h with h2 h3
      rw [← h3] at hx
      exact absurd hx h1
    · split at h
      · injection h with h1 h2; exact ⟨[], by rw [← h1, List.append_nil]⟩
      · obtain ⟨m, hm⟩ := ih _ _ _ _ h hx
        exact ⟨(oneF L 48 a).1 :: m, by rw [hm, List.append_assoc]; rfl⟩
theorem tokP_kind (c : UInt8) (r : List UInt8) : (tokP (c :: r)).1 ≠ 5 := by
  simp only [tokP]
  repeat' split
  all_goals exact fun h => by cases h
theorem skipA_zero (c : UInt8) (r : List UInt8) (hc : c = 34) : skipA (c :: r) 0 = 0 := by
  subst hc; rfl
theorem skipA_end (L : List UInt8) : skipA L L.length = L.length := by
  unfold skipA
  rw [List.drop_length]; rfl
theorem scan_one (L : List UInt8) : okQ L = true ↔ ∃ t, scanF L = ([t], 0, 0) ∧ t.kind = 5 ∧ t.text.size = L.length := by
  constructor
  · intro h
    unfold okQ at h
    simp only [Bool.and_eq_true, decide_eq_true_eq] at h
    obtain ⟨⟨h1, h2⟩, h3⟩ := h
    cases L with
    | nil => cases h2
    | cons c r =>
      obtain rfl : c = 34 := by simpa using h2
      have ho : oneF (34 :: r) 48 0 = (⟨5, ⟨(34 :: r).toArray⟩, 0⟩, (34 :: r).length, 0) := by
        rw [oneF_eq, skipA_zero _ _ rfl]
        unfold oneG
        rw [List.drop_zero]
        dsimp only
        rw [if_pos rfl, h3, if_neg (by simp), Nat.sub_zero, List.take_length]
      have he : oneF (34 :: r) 48 (34 :: r).length = (noTf, (34 :: r).length, 0) := by
        rw [oneF_eq, skipA_end]
        unfold oneG
        rw [List.drop_length]
      refine ⟨⟨5, ⟨(34 :: r).toArray⟩, 0⟩, ?_, rfl, by rw [bytes_size]⟩
      unfold scanF
      rw [if_neg (by omega)]
      rw [scanGo, ho]
      dsimp only
      rw [if_neg (by simp), if_neg (by decide)]
      rw [show (34 :: r).length = r.length + 1 from rfl] at he ⊢
      rw [scanGo, he]
      dsimp only
      rw [if_neg (by simp), if_pos (show noTf.kind = 0 from rfl)]
      rfl
  · rintro ⟨t, h, hk, hs⟩
    unfold scanF at h
    split at h
    · injection h with h1 _; cases h1
    · rename_i hle
      rw [scanGo] at h
      split at h
      · injection h with h1 _; cases h1
      · rename_i h0
        split at h
        · injection h with h1 _; cases h1
        · rename_i hk0
          obtain ⟨m, hm⟩ := scanGo_pre L _ _ _ _ _ h rfl
          obtain rfl : t = (oneF L 48 0).1 := by
            rw [List.nil_append, List.singleton_append] at hm
            injection hm with hm _
          have hsk := skipA_le L 0 (Nat.zero_le _)
          rw [oneF_eq] at hk hs h0
          generalize skipA L 0 = b at hk hs hsk h0
          unfold oneG at hk hs h0
          cases hd : L.drop b with
          | nil => rw [hd] at hk; cases hk
          | cons c r =>
            have hlen : (c :: r).length = L.length - b := by rw [← hd, List.length_drop]
            rw [List.length_cons] at hlen
            rw [hd] at hk hs h0
            dsimp only at hk hs h0
            split at hk
            · rename_i hc
              rw [if_pos hc] at hs h0
              obtain ⟨q1, q2⟩ := quoteF_ok L 48 b (by omega)
              split at hk
              · cases hk
              · rename_i hq
                rw [if_neg hq, bytes_size, List.length_take, List.length_cons] at hs
                obtain rfl : b = 0 := by omega
                rw [List.drop_zero] at hd
                unfold okQ
                simp only [Bool.and_eq_true, decide_eq_true_eq]
                refine ⟨⟨by omega, by rw [hd, hc]; rfl⟩, ?_⟩
                exact Prod.ext (by show (quoteF L 48 0).1 = L.length; omega) (by show (quoteF L 48 0).2 = 0; omega)
            · split at hk
              · cases hk
              · exact absurd hk (tokP_kind c r)
theorem scanGo_ok (L : List UInt8) : ∀ (n a : Nat) (acc : List Tf), (scanGo L n a acc).2.2 = 0 → (scanGo L n a acc).2.1 = 0 := by
  intro n
  induction n with
  | zero => intro a acc _; rfl
  | succ n ih =>
    intro a acc h
    simp only [scanGo] at h ⊢
    split
    · rename_i h1; rw [if_pos h1] at h; exact absurd h h1
    · rename_i h1
      rw [if_neg h1] at h
      split
      · rfl
      · rename_i h2; rw [if_neg h2] at h; exact ih _ _ h
theorem scanF_ok (L : List UInt8) (h : (scanF L).2.2 = 0) : (scanF L).2.1 = 0 := by
  unfold scanF at h ⊢
  split
  · rfl
  · rename_i h1; rw [if_neg h1] at h; exact scanGo_ok _ _ _ _ h
end Th
