/- Plain arithmetic for sums and products of numbers. No conditions: it imports no program. -/
import Derived.Test.YtljemfajjeoecaaDoorNumMath
namespace Th
/-- a whole number of either sign times a power of ten -/
def normZ (S e : Int) : (Int × Int) × Int := norm (decide (S < 0)) S.natAbs e

theorem norm_eq (neg : Bool) (m : Nat) (S e : Int) (h1 : m = S.natAbs) (h2 : m ≠ 0 → neg = decide (S < 0)) : norm neg m e = normZ S e := by
  unfold normZ
  by_cases h : m = 0
  · rw [← h1, h]; rfl
  · rw [h2 h, h1]

/-- the sum of two numbers, exactly, at an exponent below both -/
def sumZ (m1 e1 m2 e2 e : Int) : Int := m1 * (10 ^ (e1 - e).toNat : Nat) + m2 * (10 ^ (e2 - e).toNat : Nat)
def low (e1 e2 : Int) : Int := if e1 ≤ e2 then e1 else e2
def addN (m1 e1 m2 e2 : Int) : (Int × Int) × Int := if right m1 e1 && right m2 e2 then normZ (sumZ m1 e1 m2 e2 (low e1 e2)) (low e1 e2) else ((0, 0), 10)

theorem normZ_shift (S : Int) (k : Nat) (e : Int) : normZ (S * (10 ^ k : Nat)) e = normZ S (e + k) := by
  unfold normZ
  have hp : (0 : Int) < ((10 ^ k : Nat) : Int) := by have := Nat.pow_pos (n := k) (show 0 < 10 by omega); omega
  have h1 : (S * (10 ^ k : Nat)).natAbs = S.natAbs * 10 ^ k := by rw [Int.natAbs_mul]; rfl
  have h2 : decide (S * ((10 ^ k : Nat) : Int) < 0) = decide (S < 0) := by
    rw [decide_eq_decide]
    constructor
    · intro h
      by_cases h' : S < 0
      · exact h'
      · have := Int.mul_nonneg (show 0 ≤ S by omega) (Int.le_of_lt hp); omega
    · intro h; exact Int.mul_neg_of_neg_of_pos h hp
  rw [h1, h2, norm_shift]

theorem right_spec {m e : Int} (h : right m e = true) (hm : m ≠ 0) : m.natAbs < 1000000000000000000 ∧ m.natAbs % 10 ≠ 0 ∧ -64 ≤ e ∧ e ≤ 64 := by
  unfold right at h
  rw [if_neg hm] at h
  simp only [Bool.and_eq_true, decide_eq_true_eq] at h
  exact ⟨h.1.1.1, h.1.1.2, h.1.2, h.2⟩
theorem right_exp {m e : Int} (h : right m e = true) : -64 ≤ e ∧ e ≤ 64 := by
  by_cases hm : m = 0
  · subst hm; simp [right] at h; omega
  · exact (right_spec h hm).2.2
theorem right_size {m e : Int} (h : right m e = true) : m.natAbs < 1000000000000000000 := by
  by_cases hm : m = 0
  · subst hm; decide
  · exact (right_spec h hm).1

/-- a number that may be is its own one form -/
theorem normZ_right {m e : Int} (h : right m e = true) : normZ m e = ((m, e), 0) := by
  by_cases hm : m = 0
  · subst hm
    have : e = 0 := by simpa [right] using h
    subst this
    rfl
  · obtain ⟨h1, h2, h3, h4⟩ := right_spec h hm
    unfold normZ
    rw [norm_fin _ _ _ h2]
    unfold fin
    rw [if_neg (by omega)]
    by_cases hn : m < 0
    · simp only [hn, decide_true, ↓reduceIte]; congr 2; omega
    · simp only [hn, decide_false, Bool.false_eq_true, ↓reduceIte]; congr 2; omega

theorem sumZ_zero_left (m2 e1 e2 e : Int) : sumZ 0 e1 m2 e2 e = m2 * (10 ^ (e2 - e).toNat : Nat) := by unfold sumZ; simp
theorem sumZ_zero_right (m1 e1 e2 e : Int) : sumZ m1 e1 0 e2 e = m1 * (10 ^ (e1 - e).toNat : Nat) := by unfold sumZ; simp
theorem sumZ_comm (m1 e1 m2 e2 e : Int) : sumZ m1 e1 m2 e2 e = sumZ m2 e2 m1 e1 e := by unfold sumZ; rw [Int.add_comm]
theorem low_comm (a b : Int) : low a b = low b a := by unfold low; split <;> split <;> omega
theorem low_le (a b : Int) : low a b ≤ a ∧ low a b ≤ b := by unfold low; split <;> omega
theorem addN_comm (m1 e1 m2 e2 : Int) : addN m1 e1 m2 e2 = addN m2 e2 m1 e1 := by
  unfold addN; rw [sumZ_comm, low_comm, Bool.and_comm]

theorem addN_wrong {m1 e1 m2 e2 : Int} (h : right m1 e1 = false ∨ right m2 e2 = false) : addN m1 e1 m2 e2 = ((0, 0), 10) := by
  unfold addN
  rcases h with h | h <;> rw [h] <;> simp
theorem addN_zero_left {e1 m2 e2 : Int} (h1 : right 0 e1 = true) (h2 : right m2 e2 = true) : addN 0 e1 m2 e2 = ((m2, e2), 0) := by
  unfold addN
  rw [h1, h2]
  simp only [Bool.and_self, ↓reduceIte]
  rw [sumZ_zero_left, normZ_shift, show low e1 e2 + ((e2 - low e1 e2).toNat : Int) = e2 by have := low_le e1 e2; omega]
  exact normZ_right h2
theorem addN_zero_right {m1 e1 e2 : Int} (h1 : right m1 e1 = true) (h2 : right 0 e2 = true) : addN m1 e1 0 e2 = ((m1, e1), 0) := by
  rw [addN_comm]; exact addN_zero_left h2 h1

theorem natAbs_sum (a b : Int) : a.natAbs - b.natAbs ≤ (a + b).natAbs := by omega

/-- exponents too far apart: the sum has too many digits -/
theorem addN_far {m1 e1 m2 e2 : Int} (h1 : right m1 e1 = true) (h2 : right m2 e2 = true) (hm1 : m1 ≠ 0) (hm2 : m2 ≠ 0) (hd : 18 < e1 - e2) : addN m1 e1 m2 e2 = ((0, 0), 11) := by
  unfold addN
  rw [h1, h2]
  simp only [Bool.and_self, ↓reduceIte]
  have hl : low e1 e2 = e2 := by unfold low; rw [if_neg (by omega)]
  rw [hl]
  obtain ⟨a1, a2, a3, a4⟩ := right_spec h1 hm1
  obtain ⟨b1, b2, b3, b4⟩ := right_spec h2 hm2
  obtain ⟨k, hk⟩ : ∃ k : Nat, (e1 - e2).toNat = k + 19 := ⟨(e1 - e2).toNat - 19, by omega⟩
  have hS : sumZ m1 e1 m2 e2 e2 = m1 * (10 ^ k : Nat) * 10000000000000000000 + m2 := by
    unfold sumZ
    rw [hk, Nat.pow_add, show (e2 - e2).toNat = 0 by omega, Int.mul_assoc]
    simp
  have hp : 0 < 10 ^ k := Nat.pow_pos (by omega)
  have hq : 1 ≤ (m1 * (10 ^ k : Nat)).natAbs := by
    rw [Int.natAbs_mul]
    have : 1 ≤ m1.natAbs * (10 ^ k) := Nat.mul_pos (by omega) hp
    simpa using this
  rw [hS]
  generalize m1 * ((10 ^ k : Nat) : Int) = q at *
  unfold normZ
  rw [norm_fin _ _ _ (by omega)]
  unfold fin
  rw [if_pos (by omega)]

/-- a power of ten, as the table has it -/
def pten (d : Int) : Int := ((10 ^ d.toNat : Nat) : Int)
theorem pten_bd (d : Int) (h0 : 0 ≤ d) (h1 : d ≤ 18) : 1 ≤ pten d ∧ pten d ≤ 1000000000000000000 := by
  unfold pten
  have h2 : (10 : Nat) ^ d.toNat ≤ 10 ^ 18 := Nat.pow_le_pow_right (by omega) (by omega)
  have h3 : 0 < (10 : Nat) ^ d.toNat := Nat.pow_pos (by omega)
  omega

theorem add_near {M1 E1 M2 E2 : Int} (h1 : right M1 E1 = true) (h2 : right M2 E2 = true) (hd : 0 ≤ E1 - E2) : addN M1 E1 M2 E2 = normZ (M1 * pten (E1 - E2) + M2) E2 := by
  have hl : low E1 E2 = E2 := by unfold low; split <;> omega
  unfold addN
  rw [h1, h2, hl]
  simp only [Bool.and_self, ↓reduceIte]
  unfold sumZ pten
  rw [show (E2 - E2).toNat = 0 by omega]
  simp
def mhi (x y : Int) : Int := x * y / 18446744073709551616
def mlo (x y : Int) : Int := x * y % 18446744073709551616
def alo (x y : Int) : Int := (x + y) % 18446744073709551616
def ahi (x y : Int) : Int := (x + y) / 18446744073709551616
def slo (x y : Int) : Int := (x - y) % 18446744073709551616
def shi (x y : Int) : Int := if x < y then 1 else 0

theorem mul_nonneg' {A T : Int} (h1 : 0 ≤ A) (h2 : 0 ≤ T) : 0 ≤ A * T := Int.mul_nonneg h1 h2
theorem mhi_bd {A T : Int} (h1 : 0 ≤ A) (h2 : A ≤ 1000000000000000000) (h3 : 0 ≤ T) (h4 : T ≤ 1000000000000000000) : 0 ≤ mhi A T ∧ mhi A T ≤ 1000000000000000000 := by
  have h5 : A * T ≤ 1000000000000000000 * 1000000000000000000 := Int.mul_le_mul h2 h4 h3 (by omega)
  have h6 := mul_nonneg' h1 h3
  unfold mhi
  generalize A * T = x at *
  omega
theorem mlo_bd (A T : Int) : 0 ≤ mlo A T ∧ mlo A T < 18446744073709551616 := by unfold mlo; omega
theorem alo_bd (x y : Int) : 0 ≤ alo x y ∧ alo x y < 18446744073709551616 := by unfold alo; omega
theorem slo_bd (x y : Int) : 0 ≤ slo x y ∧ slo x y < 18446744073709551616 := by unfold slo; omega
theorem shi_bd (x y : Int) : 0 ≤ shi x y ∧ shi x y ≤ 1 := by unfold shi; split <;> omega
theorem ahi_bd {x y : Int} (h1 : 0 ≤ x) (h2 : x < 18446744073709551616) (h3 : 0 ≤ y) (h4 : y < 18446744073709551616) : 0 ≤ ahi x y ∧ ahi x y ≤ 1 := by unfold ahi; omega

theorem sign_same {a b : Int} (ha : a ≠ 0) (hb : b ≠ 0) : (a.sign == b.sign) = true ↔ (a < 0 ↔ b < 0) := by
  simp only [beq_iff_eq]
  rcases Int.lt_trichotomy a 0 with h | h | h <;> rcases Int.lt_trichotomy b 0 with h' | h' | h'
  all_goals first | omega | skip
  · rw [Int.sign_eq_neg_one_of_neg h, Int.sign_eq_neg_one_of_neg h']; simp [h, h']
  · rw [Int.sign_eq_neg_one_of_neg h, Int.sign_eq_one_of_pos h']; simp; omega
  · rw [Int.sign_eq_one_of_pos h, Int.sign_eq_neg_one_of_neg h']; simp; omega
  · rw [Int.sign_eq_one_of_pos h, Int.sign_eq_one_of_pos h']; simp; omega

/-- the ends of Add -/
theorem add_end1 {m1 m2 A B T e : Int} (hA : (m1.natAbs : Int) = A) (hB : (m2.natAbs : Int) = B) (hT : 1 ≤ T) (h1 : m1 ≠ 0) (h2 : m2 ≠ 0) (hs : (m1.sign == m2.sign) = true) :
    norm (decide (m1 < 0)) (wide (mhi A T + ahi (mlo A T) B) (alo (mlo A T) B)) e = normZ (m1 * T + m2) e := by
  rw [sign_same h1 h2] at hs
  have hw : wide (mhi A T + ahi (mlo A T) B) (alo (mlo A T) B) = (A * T + B).toNat := by unfold wide mhi ahi mlo alo; omega
  rw [hw]
  apply norm_eq
  · by_cases hn : m1 < 0
    · have h4 : A = -m1 := by omega
      have h5 : B = -m2 := by omega
      have h3 := Int.mul_neg_of_neg_of_pos hn (show 0 < T by omega)
      rw [h4, h5, Int.neg_mul]; omega
    · have h4 : A = m1 := by omega
      have h5 : B = m2 := by omega
      have h3 := Int.mul_pos (show 0 < m1 by omega) (show 0 < T by omega)
      rw [h4, h5]; omega
  · intro _
    rw [decide_eq_decide]
    constructor
    · intro hn
      have h3 := Int.mul_neg_of_neg_of_pos hn (show 0 < T by omega)
      omega
    · intro hn
      by_cases h : m1 < 0
      · exact h
      · have h3 := Int.mul_pos (show 0 < m1 by omega) (show 0 < T by omega)
        omega

theorem add_end2 {m1 m2 A B T e : Int} (hA : (m1.natAbs : Int) = A) (hB : (m2.natAbs : Int) = B) (hT : 1 ≤ T) (h1 : m1 ≠ 0) (h2 : m2 ≠ 0) (hs : (m1.sign == m2.sign) = false) (hh : mhi A T = 0) (hl : mlo A T < B) :
    norm (decide (m2 < 0)) (wide 0 (B - mlo A T)) e = normZ (m1 * T + m2) e := by
  have hs' : ¬ (m1 < 0 ↔ m2 < 0) := by rw [← sign_same h1 h2, hs]; simp
  have hw : wide 0 (B - mlo A T) = (B - A * T).toNat := by unfold wide mhi mlo at *; omega
  have hlt : A * T < B := by unfold mhi mlo at *; omega
  rw [hw]
  apply norm_eq
  · by_cases hn : m1 < 0
    · have h4 : A = -m1 := by omega
      have h5 : B = m2 := by omega
      rw [h4, Int.neg_mul] at hlt ⊢
      have h3 := Int.mul_neg_of_neg_of_pos hn (show 0 < T by omega)
      omega
    · have h4 : A = m1 := by omega
      have h5 : B = -m2 := by omega
      rw [h4] at hlt ⊢
      omega
  · intro _
    rw [decide_eq_decide]
    by_cases hn : m1 < 0
    · have h4 : A = -m1 := by omega
      rw [h4, Int.neg_mul] at hlt
      omega
    · have h4 : A = m1 := by omega
      rw [h4] at hlt
      omega

theorem add_end3 {m1 m2 A B T e : Int} (hA : (m1.natAbs : Int) = A) (hB : (m2.natAbs : Int) = B) (hT : 1 ≤ T) (h1 : m1 ≠ 0) (h2 : m2 ≠ 0) (hB1 : B < 1000000000000000000) (hs : (m1.sign == m2.sign) = false) (hh : ¬ (mhi A T = 0 ∧ mlo A T < B)) :
    norm (decide (m1 < 0)) (wide (mhi A T - shi (mlo A T) B) (slo (mlo A T) B)) e = normZ (m1 * T + m2) e := by
  have hs' : ¬ (m1 < 0 ↔ m2 < 0) := by rw [← sign_same h1 h2, hs]; simp
  have h0 : 0 ≤ A * T := Int.mul_nonneg (by omega) (by omega)
  have hge : B ≤ A * T := by unfold mhi mlo at hh; omega
  have hw : wide (mhi A T - shi (mlo A T) B) (slo (mlo A T) B) = (A * T - B).toNat := by
    unfold wide mhi shi slo mlo; split <;> omega
  rw [hw]
  apply norm_eq
  · by_cases hn : m1 < 0
    · have h4 : A = -m1 := by omega
      rw [h4, Int.neg_mul] at hge ⊢
      omega
    · have h4 : A = m1 := by omega
      rw [h4] at hge ⊢
      omega
  · intro hne
    rw [decide_eq_decide]
    by_cases hn : m1 < 0
    · have h4 : A = -m1 := by omega
      rw [h4, Int.neg_mul] at hge hne
      omega
    · have h4 : A = m1 := by omega
      rw [h4] at hge hne
      omega
theorem carry_ok {A B T : Int} (h1 : 0 ≤ A) (h2 : A < 1000000000000000000) (h3 : 1 ≤ T) (h4 : T ≤ 1000000000000000000) (_hB : B < 1000000000000000000) (hh : ¬ (mhi A T = 0 ∧ mlo A T < B)) : 0 ≤ mhi A T - shi (mlo A T) B ∧ mhi A T - shi (mlo A T) B ≤ 1000000000000000000 := by
  have := mhi_bd h1 (show A ≤ 1000000000000000000 by omega) (show 0 ≤ T by omega) h4
  unfold shi; split <;> omega
end Th
