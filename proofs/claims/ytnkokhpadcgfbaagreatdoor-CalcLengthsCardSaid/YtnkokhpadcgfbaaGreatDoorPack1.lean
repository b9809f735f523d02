/- Lemmas and contracts for the laws CalcLengths, part 1 of 37: NumMath, Base. Conditions: those that each lemma names. -/
import Derived.Lib.TrimByte
import Derived.WalkKit
import Derived.WalkSpells
import Derived.BigQuiet
import Derived.Deep.QuietTactic
namespace Th
def val (ds : List Nat) : Nat := ds.foldl (fun a d => a * 10 + d) 0
theorem foldl_val (ds : List Nat) (a : Nat) : ds.foldl (fun a d => a * 10 + d) a = a * 10 ^ ds.length + val ds := by
  unfold val
  induction ds generalizing a with
  | nil => simp
  | cons d ds ih =>
    simp only [List.foldl_cons, List.length_cons]
    rw [ih (a * 10 + d), ih (0 * 10 + d)]
    simp only [Nat.zero_mul, Nat.zero_add, Nat.pow_succ, Nat.add_mul]
    rw [Nat.mul_assoc, Nat.mul_comm 10]
    omega
@[simp] theorem val_nil : val [] = 0 := rfl
theorem val_cons (d : Nat) (ds : List Nat) : val (d :: ds) = d * 10 ^ ds.length + val ds := by
  show (d :: ds).foldl _ 0 = _
  rw [List.foldl_cons, foldl_val]; simp
theorem val_snoc (ds : List Nat) (d : Nat) : val (ds ++ [d]) = val ds * 10 + d := by
  unfold val; rw [List.foldl_append]; rfl
def fin (neg : Bool) (m : Nat) (e : Int) : (Int × Int) × Int :=
  if 1000000000000000000 ≤ m ∨ e < -64 ∨ 64 < e then ((0, 0), 11) else ((if neg then -(m : Int) else m, e), 0)
def strip : Nat → Nat → Int → Nat × Int
  | 0, m, e => (m, e)
  | f + 1, m, e => if m % 10 = 0 then strip f (m / 10) (e + 1) else (m, e)
def norm (neg : Bool) (m : Nat) (e : Int) : (Int × Int) × Int :=
  if m = 0 then ((0, 0), 0) else fin neg (strip m m e).1 (strip m m e).2
theorem strip_of (k : Nat) : ∀ (f m : Nat) (e : Int), m % 10 ≠ 0 → k ≤ f → strip f (m * 10 ^ k) e = (m, e + k) := by
  induction k with
  | zero =>
    intro f m e hm _
    cases f with
    | zero => simp [strip]
    | succ f => simp [strip, hm]
  | succ k ih =>
    intro f m e hm hf
    obtain ⟨f, rfl⟩ : ∃ g, f = g + 1 := ⟨f - 1, by omega⟩
    have h1 : m * 10 ^ (k + 1) = (m * 10 ^ k) * 10 := by rw [Nat.pow_succ, Nat.mul_assoc]
    rw [h1]
    simp only [strip, Nat.mul_mod_left, ↓reduceIte]
    rw [Nat.mul_div_cancel _ (by omega), ih f m (e + 1) hm (by omega)]
    congr 1
    omega
theorem lt_pow_ten (k : Nat) : k < 10 ^ k := by
  induction k with
  | zero => simp
  | succ k ih => rw [Nat.pow_succ]; omega
theorem norm_zero (neg : Bool) (e : Int) : norm neg 0 e = ((0, 0), 0) := rfl
theorem norm_of (neg : Bool) (m k : Nat) (e : Int) (hm : m % 10 ≠ 0) : norm neg (m * 10 ^ k) e = fin neg m (e + k) := by
  have h0 : m ≠ 0 := by intro h; subst h; simp at hm
  have hk := lt_pow_ten k
  have h1 : 1 * 10 ^ k ≤ m * 10 ^ k := Nat.mul_le_mul_right _ (by omega)
  unfold norm
  rw [if_neg (by omega), strip_of k _ m e hm (by omega)]
theorem norm_fin (neg : Bool) (m : Nat) (e : Int) (hm : m % 10 ≠ 0) : norm neg m e = fin neg m e := by
  have := norm_of neg m 0 e hm
  simpa using this
theorem exists_form (m : Nat) (_h : m ≠ 0) : ∃ a k, a % 10 ≠ 0 ∧ m = a * 10 ^ k := by
  induction m using Nat.strongRecOn with
  | _ m ih =>
    by_cases hm : m % 10 = 0
    · obtain ⟨a, k, ha, hk⟩ := ih (m / 10) (by omega) (by omega)
      refine ⟨a, k + 1, ha, ?_⟩
      rw [Nat.pow_succ, ← Nat.mul_assoc, ← hk]
      omega
    · exact ⟨m, 0, hm, by simp⟩
theorem norm_shift (neg : Bool) (m k : Nat) (e : Int) : norm neg (m * 10 ^ k) e = norm neg m (e + k) := by
  by_cases h : m = 0
  · subst h; simp [norm_zero]
  · obtain ⟨a, j, ha, rfl⟩ := exists_form m h
    rw [Nat.mul_assoc, ← Nat.pow_add, norm_of _ _ _ _ ha, norm_of _ _ _ _ ha]
    congr 1
    omega
def right (m e : Int) : Bool := if m = 0 then e == 0 else decide (m.natAbs < 1000000000000000000) && decide (m.natAbs % 10 ≠ 0) && decide (-64 ≤ e) && decide (e ≤ 64)
theorem tmod_ten (m : Int) : m.tmod 10 = 0 ↔ m.natAbs % 10 = 0 := by
  rw [← Int.dvd_iff_tmod_eq_zero]; omega
theorem right_cases (m e : Int) (hm : m ≠ 0) :
    (decide ((m.natAbs : Int) < 1000000000000000000) = false ∧ right m e = false) ∨
    (decide ((m.natAbs : Int) < 1000000000000000000) = true ∧ (m.tmod 10 != 0) = false ∧ right m e = false) ∨
    (decide ((m.natAbs : Int) < 1000000000000000000) = true ∧ (m.tmod 10 != 0) = true ∧ decide (-64 ≤ e) = false ∧ right m e = false) ∨
    (decide ((m.natAbs : Int) < 1000000000000000000) = true ∧ (m.tmod 10 != 0) = true ∧ decide (-64 ≤ e) = true ∧ right m e = decide (e ≤ 64)) := by
  have h1 : right m e = (decide (m.natAbs < 1000000000000000000) && decide (m.natAbs % 10 ≠ 0) && decide (-64 ≤ e) && decide (e ≤ 64)) := by unfold right; rw [if_neg hm]
  have h2 : decide ((m.natAbs : Int) < 1000000000000000000) = decide (m.natAbs < 1000000000000000000) := by rw [decide_eq_decide]; omega
  have h3 : (m.tmod 10 != 0) = decide (m.natAbs % 10 ≠ 0) := by
    rw [Bool.eq_iff_iff]; simp only [bne_iff_ne, ne_eq, decide_eq_true_eq, tmod_ten]
  rw [h1, h2, h3]
  cases decide (m.natAbs < 1000000000000000000) <;> cases decide (m.natAbs % 10 ≠ 0) <;> cases decide (-64 ≤ e) <;> simp
def dq10 (h l : Int) : Int := (h * 18446744073709551616 + l) / 10
def dm10 (h l : Int) : Int := (h * 18446744073709551616 + l) % 10
def wide (h l : Int) : Nat := (h * 18446744073709551616 + l).toNat
theorem wide_div (h l : Int) (_h0 : 0 ≤ h) (_l0 : 0 ≤ l) : wide (h / 10) (dq10 (h % 10) l) = wide h l / 10 := by unfold wide dq10; omega
theorem wide_mod (h l : Int) (h0 : 0 ≤ h) (l0 : 0 ≤ l) : dm10 (h % 10) l = (wide h l % 10 : Nat) := by unfold wide dm10; omega
theorem dq10_bd (h l : Int) (_h0 : 0 ≤ h) (l0 : 0 ≤ l) (l1 : l < 18446744073709551616) : 0 ≤ dq10 (h % 10) l ∧ dq10 (h % 10) l < 18446744073709551616 := by unfold dq10; omega
theorem wide_lt (h l : Int) (h1 : h < 18446744073709551616) (l1 : l < 18446744073709551616) : wide h l < 340282366920938463463374607431768211456 := by unfold wide; omega
theorem pow_small (k n V : Nat) (hn : n ≠ 0) (e : n * 10 ^ k = V) (hV : V < 340282366920938463463374607431768211456) : k < 39 := by
  rcases Nat.lt_or_ge k 39 with h | h
  · exact h
  · have h1 : 10 ^ 39 ≤ 10 ^ k := Nat.pow_le_pow_right (by omega) h
    have h2 : 1 * 10 ^ k ≤ n * 10 ^ k := Nat.mul_le_mul_right _ (by omega)
    have h3 : (10 : Nat) ^ 39 = 1000000000000000000000000000000000000000 := by decide
    omega
theorem made_cases (neg : Bool) (x y f : Int) (x0 : 0 ≤ x) (y0 : 0 ≤ y) (hr : wide x y % 10 ≠ 0) :
    ((x != 0) = true ∧ norm neg (wide x y) f = ((0, 0), 11)) ∨
    ((x != 0) = false ∧ decide (1000000000000000000 ≤ y) = true ∧ norm neg (wide x y) f = ((0, 0), 11)) ∨
    ((x != 0) = false ∧ decide (1000000000000000000 ≤ y) = false ∧ decide (f < -64) = true ∧ norm neg (wide x y) f = ((0, 0), 11)) ∨
    ((x != 0) = false ∧ decide (1000000000000000000 ≤ y) = false ∧ decide (f < -64) = false ∧ decide (64 < f) = true ∧ norm neg (wide x y) f = ((0, 0), 11)) ∨
    ((x != 0) = false ∧ decide (1000000000000000000 ≤ y) = false ∧ decide (f < -64) = false ∧ decide (64 < f) = false ∧ y < 1000000000000000000 ∧ norm neg (wide x y) f = ((if neg then -y else y, f), 0)) := by
  rw [norm_fin _ _ _ hr]
  unfold fin wide
  by_cases hx : x = 0
  · subst hx
    have e : (0 * 18446744073709551616 + y).toNat = y.toNat := by congr 1; omega
    rw [e]
    right
    by_cases hy : 1000000000000000000 ≤ y
    · left; exact ⟨rfl, by simpa using hy, by rw [if_pos (by omega)]⟩
    · right
      have hy' : decide (1000000000000000000 ≤ y) = false := by simpa using hy
      by_cases h1 : f < -64
      · left; exact ⟨rfl, hy', by simpa using h1, by rw [if_pos (by omega)]⟩
      · right
        by_cases h2 : 64 < f
        · left; exact ⟨rfl, hy', by simpa using h1, by simpa using h2, by rw [if_pos (by omega)]⟩
        · right; exact ⟨rfl, hy', by simpa using h1, by simpa using h2, by omega, by rw [if_neg (by omega), Int.toNat_of_nonneg y0]⟩
  · left
    exact ⟨by simpa using hx, by rw [if_pos (by omega)]⟩
end Th
namespace Th
def normZ (S e : Int) : (Int × Int) × Int := norm (decide (S < 0)) S.natAbs e
theorem norm_eq (neg : Bool) (m : Nat) (S e : Int) (h1 : m = S.natAbs) (h2 : m ≠ 0 → neg = decide (S < 0)) : norm neg m e = normZ S e := by
  unfold normZ
  by_cases h : m = 0
  · rw [← h1, h]; rfl
  · rw [h2 h, h1]
def sumZ (m1 e1 m2 e2 e : Int) : Int := m1 * (10 ^ (e1 - e).toNat : Nat) + m2 * (10 ^ (e2 - e).toNat : Nat)
def low (e1 e2 : Int) : Int := if e1 ≤ e2 then e1 else e2
def addN (m1 e1 m2 e2 : Int) : (Int × Int) × Int := if right m1 e1 && right m2 e2 then normZ (sumZ m1 e1 m2 e2 (low e1 e2)) (low e1 e2) else ((0, 0), 10)
theorem normZ_shift (S : Int) (k : Nat) (e : Int) : normZ (S * (10 ^ k : Nat)) e = normZ S (e + k) := by
  unfold normZ
  have hp : (0 : Int) < ((10 ^ k : Nat) : Int) := by have := Nat.pow_pos (n := k) (show 0 < 10 by omega); omega
  have h1 : (S * (10 ^ k : Nat)).natAbs = S.natAbs * 10 ^ k := by rw [Int.natAbs_mul]; rfl
  have h2 : decide (S * ((10 ^ k : Nat) : Int) < 0) = decide (S < 0) := by
    rw [decide_eq_decide]
    constructor
    · intro h
      by_cases h' : S < 0
      · exact h'
      · have := Int.mul_nonneg (show 0 ≤ S by omega) (Int.le_of_lt hp); omega
    · intro h; exact Int.mul_neg_of_neg_of_pos h hp
  rw [h1, h2, norm_shift]
theorem right_spec {m e : Int} (h : right m e = true) (hm : m ≠ 0) : m.natAbs < 1000000000000000000 ∧ m.natAbs % 10 ≠ 0 ∧ -64 ≤ e ∧ e ≤ 64 := by
  unfold right at h
  rw [if_neg hm] at h
  simp only [Bool.and_eq_true, decide_eq_true_eq] at h
  exact ⟨h.1.1.1, h.1.1.2, h.1.2, h.2⟩
theorem right_exp {m e : Int} (h : right m e = true) : -64 ≤ e ∧ e ≤ 64 := by
  by_cases hm : m = 0
  · subst hm; simp [right] at h; omega
  · exact (right_spec h hm).2.2
theorem right_size {m e : Int} (h : right m e = true) : m.natAbs < 1000000000000000000 := by
  by_cases hm : m = 0
  · subst hm; decide
  · exact (right_spec h hm).1
theorem normZ_right {m e : Int} (h : right m e = true) : normZ m e = ((m, e), 0) := by
  by_cases hm : m = 0
  · subst hm
    have : e = 0 := by simpa [right] using h
    subst this
    rfl
  · obtain ⟨h1, h2, h3, h4⟩ := right_spec h hm
    unfold normZ
    rw [norm_fin _ _ _ h2]
    unfold fin
    rw [if_neg (by omega)]
    by_cases hn : m < 0
    · simp only [hn, decide_true, ↓reduceIte]; congr 2; omega
    · simp only [hn, decide_false, Bool.false_eq_true, ↓reduceIte]; congr 2; omega
theorem sumZ_zero_left (m2 e1 e2 e : Int) : sumZ 0 e1 m2 e2 e = m2 * (10 ^ (e2 - e).toNat : Nat) := by unfold sumZ; simp
theorem sumZ_comm (m1 e1 m2 e2 e : Int) : sumZ m1 e1 m2 e2 e = sumZ m2 e2 m1 e1 e := by unfold sumZ; rw [Int.add_comm]
theorem low_comm (a b : Int) : low a b = low b a := by unfold low; split <;> split <;> omega
theorem low_le (a b : Int) : low a b ≤ a ∧ low a b ≤ b := by unfold low; split <;> omega
theorem addN_comm (m1 e1 m2 e2 : Int) : addN m1 e1 m2 e2 = addN m2 e2 m1 e1 := by
  unfold addN; rw [sumZ_comm, low_comm, Bool.and_comm]
theorem addN_wrong {m1 e1 m2 e2 : Int} (h : right m1 e1 = false ∨ right m2 e2 = false) : addN m1 e1 m2 e2 = ((0, 0), 10) := by
  unfold addN
  rcases h with h | h <;> rw [h] <;> simp
theorem addN_zero_left {e1 m2 e2 : Int} (h1 : right 0 e1 = true) (h2 : right m2 e2 = true) : addN 0 e1 m2 e2 = ((m2, e2), 0) := by
  unfold addN
  rw [h1, h2]
  simp only [Bool.and_self, ↓reduceIte]
  rw [sumZ_zero_left, normZ_shift, show low e1 e2 + ((e2 - low e1 e2).toNat : Int) = e2 by have := low_le e1 e2; omega]
  exact normZ_right h2
theorem addN_zero_right {m1 e1 e2 : Int} (h1 : right m1 e1 = true) (h2 : right 0 e2 = true) : addN m1 e1 0 e2 = ((m1, e1), 0) := by
  rw [addN_comm]; exact addN_zero_left h2 h1
theorem addN_far {m1 e1 m2 e2 : Int} (h1 : right m1 e1 = true) (h2 : right m2 e2 = true) (hm1 : m1 ≠ 0) (hm2 : m2 ≠ 0) (hd : 18 < e1 - e2) : addN m1 e1 m2 e2 = ((0, 0), 11) := by
  unfold addN
  rw [h1, h2]
  simp only [Bool.and_self, ↓reduceIte]
  have hl : low e1 e2 = e2 := by unfold low; rw [if_neg (by omega)]
  rw [hl]
  obtain ⟨a1, a2, a3, a4⟩ := right_spec h1 hm1
  obtain ⟨b1, b2, b3, b4⟩ := right_spec h2 hm2
  obtain ⟨k, hk⟩ : ∃ k : Nat, (e1 - e2).toNat = k + 19 := ⟨(e1 - e2).toNat - 19, by omega⟩
  have hS : sumZ m1 e1 m2 e2 e2 = m1 * (10 ^ k : Nat) * 10000000000000000000 + m2 := by
    unfold sumZ
    rw [hk, Nat.pow_add, show (e2 - e2).toNat = 0 by omega, Int.mul_assoc]
    simp
  have hp : 0 < 10 ^ k := Nat.pow_pos (by omega)
  have hq : 1 ≤ (m1 * (10 ^ k : Nat)).natAbs := by
    rw [Int.natAbs_mul]
    have : 1 ≤ m1.natAbs * (10 ^ k) := Nat.mul_pos (by omega) hp
    simpa using this
  rw [hS]
  generalize m1 * ((10 ^ k : Nat) : Int) = q at *
  unfold normZ
  rw [norm_fin _ _ _ (by omega)]
  unfold fin
  rw [if_pos (by omega)]
def pten (d : Int) : Int := ((10 ^ d.toNat : Nat) : Int)
theorem pten_bd (d : Int) (h0 : 0 ≤ d) (h1 : d ≤ 18) : 1 ≤ pten d ∧ pten d ≤ 1000000000000000000 := by
  unfold pten
  have h2 : (10 : Nat) ^ d.toNat ≤ 10 ^ 18 := Nat.pow_le_pow_right (by omega) (by omega)
  have h3 : 0 < (10 : Nat) ^ d.toNat := Nat.pow_pos (by omega)
  omega
theorem add_near {M1 E1 M2 E2 : Int} (h1 : right M1 E1 = true) (h2 : right M2 E2 = true) (hd : 0 ≤ E1 - E2) : addN M1 E1 M2 E2 = normZ (M1 * pten (E1 - E2) + M2) E2 := by
  have hl : low E1 E2 = E2 := by unfold low; split <;> omega
  unfold addN
  rw [h1, h2, hl]
  simp only [Bool.and_self, ↓reduceIte]
  unfold sumZ pten
  rw [show (E2 - E2).toNat = 0 by omega]
  simp
def mhi (x y : Int) : Int := x * y / 18446744073709551616
def mlo (x y : Int) : Int := x * y % 18446744073709551616
def alo (x y : Int) : Int := (x + y) % 18446744073709551616
def ahi (x y : Int) : Int := (x + y) / 18446744073709551616
def slo (x y : Int) : Int := (x - y) % 18446744073709551616
def shi (x y : Int) : Int := if x < y then 1 else 0
theorem mul_nonneg' {A T : Int} (h1 : 0 ≤ A) (h2 : 0 ≤ T) : 0 ≤ A * T := Int.mul_nonneg h1 h2
theorem mhi_bd {A T : Int} (h1 : 0 ≤ A) (h2 : A ≤ 1000000000000000000) (h3 : 0 ≤ T) (h4 : T ≤ 1000000000000000000) : 0 ≤ mhi A T ∧ mhi A T ≤ 1000000000000000000 := by
  have h5 : A * T ≤ 1000000000000000000 * 1000000000000000000 := Int.mul_le_mul h2 h4 h3 (by omega)
  have h6 := mul_nonneg' h1 h3
  unfold mhi
  generalize A * T = x at *
  omega
theorem mlo_bd (A T : Int) : 0 ≤ mlo A T ∧ mlo A T < 18446744073709551616 := by unfold mlo; omega
theorem alo_bd (x y : Int) : 0 ≤ alo x y ∧ alo x y < 18446744073709551616 := by unfold alo; omega
theorem slo_bd (x y : Int) : 0 ≤ slo x y ∧ slo x y < 18446744073709551616 := by unfold slo; omega
theorem shi_bd (x y : Int) : 0 ≤ shi x y ∧ shi x y ≤ 1 := by unfold shi; split <;> omega
theorem ahi_bd {x y : Int} (h1 : 0 ≤ x) (h2 : x < 18446744073709551616) (h3 : 0 ≤ y) (h4 : y < 18446744073709551616) : 0 ≤ ahi x y ∧ ahi x y ≤ 1 := by unfold ahi; omega
theorem sign_same {a b : Int} (ha : a ≠ 0) (hb : b ≠ 0) : (a.sign == b.sign) = true ↔ (a < 0 ↔ b < 0) := by
  simp only [beq_iff_eq]
  rcases Int.lt_trichotomy a 0 with h | h | h <;> rcases Int.lt_trichotomy b 0 with h' | h' | h'
  all_goals first | omega | skip
  · rw [Int.sign_eq_neg_one_of_neg h, Int.sign_eq_neg_one_of_neg h']; simp [h, h']
  · rw [Int.sign_eq_neg_one_of_neg h, Int.sign_eq_one_of_pos h']; simp; omega
  · rw [Int.sign_eq_one_of_pos h, Int.sign_eq_neg_one_of_neg h']; simp; omega
  · rw [Int.sign_eq_one_of_pos h, Int.sign_eq_one_of_pos h']; simp; omega
theorem add_end1 {m1 m2 A B T e : Int} (hA : (m1.natAbs : Int) = A) (hB : (m2.natAbs : Int) = B) (hT : 1 ≤ T) (h1 : m1 ≠ 0) (h2 : m2 ≠ 0) (hs : (m1.sign == m2.sign) = true) :
    norm (decide (m1 < 0)) (wide (mhi A T + ahi (mlo A T) B) (alo (mlo A T) B)) e = normZ (m1 * T + m2) e := by
  rw [sign_same h1 h2] at hs
  have hw : wide (mhi A T + ahi (mlo A T) B) (alo (mlo A T) B) = (A * T + B).toNat := by unfold wide mhi ahi mlo alo; omega
  rw [hw]
  apply norm_eq
  · by_cases hn : m1 < 0
    · have h4 : A = -m1 := by omega
      have h5 : B = -m2 := by omega
      have h3 := Int.mul_neg_of_neg_of_pos hn (show 0 < T by omega)
      rw [h4, h5, Int.neg_mul]; omega
    · have h4 : A = m1 := by omega
      have h5 : B = m2 := by omega
      have h3 := Int.mul_pos (show 0 < m1 by omega) (show 0 < T by omega)
      rw [h4, h5]; omega
  · intro _
    rw [decide_eq_decide]
    constructor
    · intro hn
      have h3 := Int.mul_neg_of_neg_of_pos hn (show 0 < T by omega)
      omega
    · intro hn
      by_cases h : m1 < 0
      · exact h
      · have h3 := Int.mul_pos (show 0 < m1 by omega) (show 0 < T by omega)
        omega
theorem add_end2 {m1 m2 A B T e : Int} (hA : (m1.natAbs : Int) = A) (hB : (m2.natAbs : Int) = B) (hT : 1 ≤ T) (h1 : m1 ≠ 0) (h2 : m2 ≠ 0) (hs : (m1.sign == m2.sign) = false) (hh : mhi A T = 0) (hl : mlo A T < B) :
    norm (decide (m2 < 0)) (wide 0 (B - mlo A T)) e = normZ (m1 * T + m2) e := by
  have hs' : ¬ (m1 < 0 ↔ m2 < 0) := by rw [← sign_same h1 h2, hs]; simp
  have hw : wide 0 (B - mlo A T) = (B - A * T).toNat := by unfold wide mhi mlo at *; omega
  have hlt : A * T < B := by unfold mhi mlo at *; omega
  rw [hw]
  apply norm_eq
  · by_cases hn : m1 < 0
    · have h4 : A = -m1 := by omega
      have h5 : B = m2 := by omega
      rw [h4, Int.neg_mul] at hlt ⊢
      have h3 := Int.mul_neg_of_neg_of_pos hn (show 0 < T by omega)
      omega
    · have h4 : A = m1 := by omega
      have h5 : B = -m2 := by omega
      rw [h4] at hlt ⊢
      omega
  · intro _
    rw [decide_eq_decide]
    by_cases hn : m1 < 0
    · have h4 : A = -m1 := by omega
      rw [h4, Int.neg_mul] at hlt
      omega
    · have h4 : A = m1 := by omega
      rw [h4] at hlt
      omega
theorem add_end3 {m1 m2 A B T e : Int} (hA : (m1.natAbs : Int) = A) (hB : (m2.natAbs : Int) = B) (hT : 1 ≤ T) (h1 : m1 ≠ 0) (h2 : m2 ≠ 0) (hB1 : B < 1000000000000000000) (hs : (m1.sign == m2.sign) = false) (hh : ¬ (mhi A T = 0 ∧ mlo A T < B)) :
    norm (decide (m1 < 0)) (wide (mhi A T - shi (mlo A T) B) (slo (mlo A T) B)) e = normZ (m1 * T + m2) e := by
  have hs' : ¬ (m1 < 0 ↔ m2 < 0) := by rw [← sign_same h1 h2, hs]; simp
  have h0 : 0 ≤ A * T := Int.mul_nonneg (by omega) (by omega)
  have hge : B ≤ A * T := by unfold mhi mlo at hh; omega
  have hw : wide (mhi A T - shi (mlo A T) B) (slo (mlo A T) B) = (A * T - B).toNat := by
    unfold wide mhi shi slo mlo; split <;> omega
  rw [hw]
  apply norm_eq
  · by_cases hn : m1 < 0
    · have h4 : A = -m1 := by omega
      rw [h4, Int.neg_mul] at hge ⊢
      omega
    · have h4 : A = m1 := by omega
      rw [h4] at hge ⊢
      omega
  · intro hne
    rw [decide_eq_decide]
    by_cases hn : m1 < 0
    · have h4 : A = -m1 := by omega
      rw [h4, Int.neg_mul] at hge hne
      omega
    · have h4 : A = m1 := by omega
      rw [h4] at hge hne
      omega
theorem carry_ok {A B T : Int} (h1 : 0 ≤ A) (h2 : A < 1000000000000000000) (h3 : 1 ≤ T) (h4 : T ≤ 1000000000000000000) (_hB : B < 1000000000000000000) (hh : ¬ (mhi A T = 0 ∧ mlo A T < B)) : 0 ≤ mhi A T - shi (mlo A T) B ∧ mhi A T - shi (mlo A T) B ≤ 1000000000000000000 := by
  have := mhi_bd h1 (show A ≤ 1000000000000000000 by omega) (show 0 ≤ T by omega) h4
  unfold shi; split <;> omega
end Th
namespace Th
def dg (c : UInt8) : Nat := c.toNat - 48
def dgs (l : List UInt8) : List Nat := l.map dg
end Th
namespace Th
open Go
def AllDig (l : List UInt8) : Prop := ∀ c ∈ l, 48 ≤ c.toNat ∧ c.toNat ≤ 57
theorem dgs_append (a b : List UInt8) : dgs (a ++ b) = dgs a ++ dgs b := List.map_append
end Th
namespace Th
end Th
namespace Th
open Go Go.RowKit
structure Keep (p : Prop) : Prop where
  out : p
def Above (W : World) : Type := { w' : World // Below W.heap.size W w' }
theorem lt_of_cell {W : World} {a : Addr} {v : Value} (h : W.cell? a = some v) : a.block < W.heap.size := World.block_lt_of_cell? W a h
theorem Above.cell {W : World} (x : Above W) {a : Addr} (h : a.block < W.heap.size) : x.val.cell? a = W.cell? a := x.property.cell h
instance (W : World) : Nonempty (Above W) := ⟨⟨W, Below.refl _ _⟩⟩
theorem below_drawn (W : World) : Below W.heap.size W { W with drawn := W.drawn + 1 } := ⟨rfl, rfl, rfl, Nat.le_refl _, fun _ _ => rfl⟩
theorem wp_region_above {P : Program} {id : Nat} {Q : Exit → Act → World → Prop} {a : Act} {w : World} {l : List Oper} (hm : P.follows .mixedOrders = true) (hB : Region.lexB .any l.toArray = true)
    (h : wpQuiet P l.toArray (fun w' => ∃ x : Above w, w' = x.val) (fun a' => ∀ w', (∃ x : Above w, w' = x.val) → Q .normal a' w') l a) : (Code.region id l.toArray true).wp P Q a w :=
  wp_region_quiet (C := fun w' => ∃ x : Above w, w' = x.val) hm hB ⟨⟨_, below_drawn w⟩, rfl⟩ (by simpa using h)
theorem calls_above {P : Program} {f : FuncId} {args : Array Value} {W : World} {x : Above W} {v : Value} (h : Calls P f args x.val fun e w' => e = .returned v ∧ Below x.val.heap.size x.val w') :
    Calls P f args x.val fun e w'' => e = .returned v ∧ ∃ y : Above W, w'' = y.val :=
  h.mono fun _ w' ⟨he, hb⟩ => ⟨he, ⟨w', x.property.trans (hb.mono x.property.size)⟩, rfl⟩
theorem bcell {W w1 : World} (hb : Below W.heap.size W w1) : (∀ b o, b < W.heap.size → w1.cell? ⟨b, o, none⟩ = W.cell? ⟨b, o, none⟩) ∧ (∀ b o, b < W.heap.size → w1.frozen? ⟨b, o, none⟩ = W.frozen? ⟨b, o, none⟩) :=
  ⟨fun b o h => hb.cell (p := ⟨b, o, none⟩) h, fun b o h => hb.frozen (p := ⟨b, o, none⟩) h⟩
theorem wp_region_from {P : Program} {W0 : World} {id : Nat} {Q : Exit → Act → World → Prop} {a : Act} {w : World} {l : List Oper} (hb : Below W0.heap.size W0 w) (hm : P.follows .mixedOrders = true) (hB : Region.lexB .any l.toArray = true)
    (h : wpQuiet P l.toArray (fun w' => ∃ x : Above W0, w' = x.val) (fun a' => ∀ w', (∃ x : Above W0, w' = x.val) → Q .normal a' w') l a) : (Code.region id l.toArray true).wp P Q a w :=
  wp_region_quiet (C := fun w' => ∃ x : Above W0, w' = x.val) hm hB ⟨⟨_, hb.trans ((below_drawn w).mono hb.size)⟩, rfl⟩ (by simpa using h)
theorem calls_same {P : Program} {f : FuncId} {args : Array Value} {w : World} {v : Value} (h : Calls P f args w fun e w' => e = .returned v ∧ w' = w) : Calls P f args w fun e w' => e = .returned v ∧ Below w.heap.size w w' :=
  h.mono fun _ _ ⟨he, hw⟩ => ⟨he, by rw [hw]; exact Below.refl _ _⟩
theorem wp_world {P : Program} {c : Code} {Q : Exit → Act → World → Prop} {a : Act} {w : World} (F : World → Prop) (h : F w) (k : ∀ W, F W → c.wp P Q a W) : c.wp P Q a w := k w h
theorem up {w W0 w1 : World} (h : Below w.heap.size w W0) (hb : Below W0.heap.size W0 w1) : Below w.heap.size w w1 := h.trans (hb.mono h.size)
theorem al1 (w : World) (o : Obj) : Below w.heap.size w (w.alloc o) := (Below.refl _ _).alloc (Nat.le_refl _) _
theorem al2 (w : World) (o p : Obj) : Below w.heap.size w ((w.alloc o).alloc p) := up (al1 w o) (al1 _ p)
theorem al3 (w : World) (o p q : Obj) : Below w.heap.size w (((w.alloc o).alloc p).alloc q) := up (al2 w o p) (al1 _ q)
theorem st1 {w W : World} (h : Below w.heap.size w W) (b o : Nat) (v : Value) (hb : w.heap.size ≤ b) : Below w.heap.size w (W.setCell ⟨b, o, none⟩ v) := h.setCell hb v
end Th
