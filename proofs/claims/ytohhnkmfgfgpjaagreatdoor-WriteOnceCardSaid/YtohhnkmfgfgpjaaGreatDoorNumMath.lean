/- Plain arithmetic for the numbers of layer 1: digits, their value, the one form of a number. No conditions: it imports no program.
Plain arithmetic for sums and products of numbers. No conditions: it imports no program.
Plain arithmetic on the texts of numbers: digits, exponents, the form of a text. No conditions: it imports no program.
Plain arithmetic on the texts of numbers: the form of a text, and what it is worth. No conditions: it imports no program.
Plain arithmetic of the quotient that has an end. No conditions: it imports no program. -/
import Derived.Lib.TrimByte
namespace Th

/-- the value of digits, the highest first -/
def val (ds : List Nat) : Nat := ds.foldl (fun a d => a * 10 + d) 0

theorem foldl_val (ds : List Nat) (a : Nat) : ds.foldl (fun a d => a * 10 + d) a = a * 10 ^ ds.length + val ds := by
  unfold val
  induction ds generalizing a with
  | nil => simp
  | cons d ds ih =>
    simp only [List.foldl_cons, List.length_cons]
    rw [ih (a * 10 + d), ih (0 * 10 + d)]
    simp only [Nat.zero_mul, Nat.zero_add, Nat.pow_succ, Nat.add_mul]
    rw [Nat.mul_assoc, Nat.mul_comm 10]
    omega

@[simp] theorem val_nil : val [] = 0 := rfl
theorem val_cons (d : Nat) (ds : List Nat) : val (d :: ds) = d * 10 ^ ds.length + val ds := by
  show (d :: ds).foldl _ 0 = _
  rw [List.foldl_cons, foldl_val]; simp
theorem val_snoc (ds : List Nat) (d : Nat) : val (ds ++ [d]) = val ds * 10 + d := by
  unfold val; rw [List.foldl_append]; rfl
theorem val_append (a b : List Nat) : val (a ++ b) = val a * 10 ^ b.length + val b := by
  unfold val; rw [List.foldl_append, foldl_val]; rfl

def Digs (ds : List Nat) : Prop := ∀ d ∈ ds, d ≤ 9

theorem val_lt (ds : List Nat) (h : Digs ds) : val ds < 10 ^ ds.length := by
  induction ds with
  | nil => simp
  | cons d ds ih =>
    rw [val_cons, List.length_cons, Nat.pow_succ]
    have h1 := ih (fun x hx => h x (List.mem_cons_of_mem _ hx))
    have h2 : d ≤ 9 := h d (List.mem_cons_self ..)
    have h3 : d * 10 ^ ds.length ≤ 9 * 10 ^ ds.length := Nat.mul_le_mul_right _ h2
    omega

theorem val_ge (d : Nat) (ds : List Nat) (h : 1 ≤ d) : 10 ^ ds.length ≤ val (d :: ds) := by
  rw [val_cons]
  have : 1 * 10 ^ ds.length ≤ d * 10 ^ ds.length := Nat.mul_le_mul_right _ h
  omega

/-- what a number is of a sign, digits that end in no nought, and an exponent -/
def fin (neg : Bool) (m : Nat) (e : Int) : (Int × Int) × Int :=
  if 1000000000000000000 ≤ m ∨ e < -64 ∨ 64 < e then ((0, 0), 11) else ((if neg then -(m : Int) else m, e), 0)

def strip : Nat → Nat → Int → Nat × Int
  | 0, m, e => (m, e)
  | f + 1, m, e => if m % 10 = 0 then strip f (m / 10) (e + 1) else (m, e)

/-- the number of a sign, a whole size, and an exponent; or that there is none -/
def norm (neg : Bool) (m : Nat) (e : Int) : (Int × Int) × Int :=
  if m = 0 then ((0, 0), 0) else fin neg (strip m m e).1 (strip m m e).2

theorem strip_of (k : Nat) : ∀ (f m : Nat) (e : Int), m % 10 ≠ 0 → k ≤ f → strip f (m * 10 ^ k) e = (m, e + k) := by
  induction k with
  | zero =>
    intro f m e hm _
    cases f with
    | zero => simp [strip]
    | succ f => simp [strip, hm]
  | succ k ih =>
    intro f m e hm hf
    obtain ⟨f, rfl⟩ : ∃ g, f = g + 1 := ⟨f - 1, by omega⟩
    have h1 : m * 10 ^ (k + 1) = (m * 10 ^ k) * 10 := by rw [Nat.pow_succ, Nat.mul_assoc]
    rw [h1]
    simp only [strip, Nat.mul_mod_left, ↓reduceIte]
    rw [Nat.mul_div_cancel _ (by omega), ih f m (e + 1) hm (by omega)]
    congr 1
    omega

theorem lt_pow_ten (k : Nat) : k < 10 ^ k := by
  induction k with
  | zero => simp
  | succ k ih => rw [Nat.pow_succ]; omega

theorem norm_zero (neg : Bool) (e : Int) : norm neg 0 e = ((0, 0), 0) := rfl

theorem norm_of (neg : Bool) (m k : Nat) (e : Int) (hm : m % 10 ≠ 0) : norm neg (m * 10 ^ k) e = fin neg m (e + k) := by
  have h0 : m ≠ 0 := by intro h; subst h; simp at hm
  have hk := lt_pow_ten k
  have h1 : 1 * 10 ^ k ≤ m * 10 ^ k := Nat.mul_le_mul_right _ (by omega)
  unfold norm
  rw [if_neg (by omega), strip_of k _ m e hm (by omega)]

theorem norm_fin (neg : Bool) (m : Nat) (e : Int) (hm : m % 10 ≠ 0) : norm neg m e = fin neg m e := by
  have := norm_of neg m 0 e hm
  simpa using this

theorem exists_form (m : Nat) (_h : m ≠ 0) : ∃ a k, a % 10 ≠ 0 ∧ m = a * 10 ^ k := by
  induction m using Nat.strongRecOn with
  | _ m ih =>
    by_cases hm : m % 10 = 0
    · obtain ⟨a, k, ha, hk⟩ := ih (m / 10) (by omega) (by omega)
      refine ⟨a, k + 1, ha, ?_⟩
      rw [Nat.pow_succ, ← Nat.mul_assoc, ← hk]
      omega
    · exact ⟨m, 0, hm, by simp⟩

/-- noughts behind count as the exponent says -/
theorem norm_shift (neg : Bool) (m k : Nat) (e : Int) : norm neg (m * 10 ^ k) e = norm neg m (e + k) := by
  by_cases h : m = 0
  · subst h; simp [norm_zero]
  · obtain ⟨a, j, ha, rfl⟩ := exists_form m h
    rw [Nat.mul_assoc, ← Nat.pow_add, norm_of _ _ _ _ ha, norm_of _ _ _ _ ha]
    congr 1
    omega

theorem norm_step (neg : Bool) (m : Nat) (e : Int) : norm neg (m * 10) e = norm neg m (e + 1) := by
  have := norm_shift neg m 1 e
  simpa using this

/-- the digits of a number, the highest first; of 0 none -/
def digs (n : Nat) : List Nat := if _h : n = 0 then [] else digs (n / 10) ++ [n % 10]
termination_by n
decreasing_by omega

theorem digs_zero : digs 0 = [] := by rw [digs]; simp
theorem digs_pos (n : Nat) (h : n ≠ 0) : digs n = digs (n / 10) ++ [n % 10] := by rw [digs]; simp [h]

theorem val_digs (n : Nat) : val (digs n) = n := by
  induction n using Nat.strongRecOn with
  | _ n ih =>
    by_cases h : n = 0
    · subst h; simp [digs_zero]
    · rw [digs_pos n h, val_snoc, ih _ (by omega)]; omega

theorem digs_digs (n : Nat) : Digs (digs n) := by
  induction n using Nat.strongRecOn with
  | _ n ih =>
    by_cases h : n = 0
    · subst h; simp [digs_zero, Digs]
    · rw [digs_pos n h]
      intro d hd
      simp only [List.mem_append, List.mem_singleton] at hd
      rcases hd with hd | hd
      · exact ih _ (by omega) d hd
      · omega

theorem digs_head (n : Nat) : ∀ d ds, digs n = d :: ds → 1 ≤ d := by
  induction n using Nat.strongRecOn with
  | _ n ih =>
    intro d ds hd
    by_cases h : n = 0
    · subst h; simp [digs_zero] at hd
    · rw [digs_pos n h] at hd
      cases hx : digs (n / 10) with
      | nil =>
        rw [hx] at hd
        simp at hd
        have : n / 10 = 0 := by
          have := val_digs (n / 10); rw [hx] at this; simpa using this.symm
        omega
      | cons a b =>
        rw [hx] at hd
        simp at hd
        rw [← hd.1]
        exact ih _ (by omega) a b hx

theorem length_digs_le (n k : Nat) (h : n < 10 ^ k) : (digs n).length ≤ k := by
  cases hx : digs n with
  | nil => simp
  | cons a b =>
    have h1 := val_ge a b (digs_head n a b hx)
    rw [← hx, val_digs] at h1
    have : 10 ^ b.length < 10 ^ k := by omega
    have := (Nat.pow_lt_pow_iff_right (by omega : 1 < 10)).1 this
    simp; omega

/-- may a number be? -/
def right (m e : Int) : Bool := if m = 0 then e == 0 else decide (m.natAbs < 1000000000000000000) && decide (m.natAbs % 10 ≠ 0) && decide (-64 ≤ e) && decide (e ≤ 64)

theorem tmod_ten (m : Int) : m.tmod 10 = 0 ↔ m.natAbs % 10 = 0 := by
  rw [← Int.dvd_iff_tmod_eq_zero]; omega

theorem right_cases (m e : Int) (hm : m ≠ 0) :
    (decide ((m.natAbs : Int) < 1000000000000000000) = false ∧ right m e = false) ∨
    (decide ((m.natAbs : Int) < 1000000000000000000) = true ∧ (m.tmod 10 != 0) = false ∧ right m e = false) ∨
    (decide ((m.natAbs : Int) < 1000000000000000000) = true ∧ (m.tmod 10 != 0) = true ∧ decide (-64 ≤ e) = false ∧ right m e = false) ∨
    (decide ((m.natAbs : Int) < 1000000000000000000) = true ∧ (m.tmod 10 != 0) = true ∧ decide (-64 ≤ e) = true ∧ right m e = decide (e ≤ 64)) := by
  have h1 : right m e = (decide (m.natAbs < 1000000000000000000) && decide (m.natAbs % 10 ≠ 0) && decide (-64 ≤ e) && decide (e ≤ 64)) := by unfold right; rw [if_neg hm]
  have h2 : decide ((m.natAbs : Int) < 1000000000000000000) = decide (m.natAbs < 1000000000000000000) := by rw [decide_eq_decide]; omega
  have h3 : (m.tmod 10 != 0) = decide (m.natAbs % 10 ≠ 0) := by
    rw [Bool.eq_iff_iff]; simp only [bne_iff_ne, ne_eq, decide_eq_true_eq, tmod_ten]
  rw [h1, h2, h3]
  cases decide (m.natAbs < 1000000000000000000) <;> cases decide (m.natAbs % 10 ≠ 0) <;> cases decide (-64 ≤ e) <;> simp

def dq10 (h l : Int) : Int := (h * 18446744073709551616 + l) / 10
def dm10 (h l : Int) : Int := (h * 18446744073709551616 + l) % 10
def wide (h l : Int) : Nat := (h * 18446744073709551616 + l).toNat

theorem wide_div (h l : Int) (_h0 : 0 ≤ h) (_l0 : 0 ≤ l) : wide (h / 10) (dq10 (h % 10) l) = wide h l / 10 := by unfold wide dq10; omega
theorem wide_mod (h l : Int) (h0 : 0 ≤ h) (l0 : 0 ≤ l) : dm10 (h % 10) l = (wide h l % 10 : Nat) := by unfold wide dm10; omega
theorem dq10_bd (h l : Int) (_h0 : 0 ≤ h) (l0 : 0 ≤ l) (l1 : l < 18446744073709551616) : 0 ≤ dq10 (h % 10) l ∧ dq10 (h % 10) l < 18446744073709551616 := by unfold dq10; omega
theorem wide_lt (h l : Int) (h1 : h < 18446744073709551616) (l1 : l < 18446744073709551616) : wide h l < 340282366920938463463374607431768211456 := by unfold wide; omega
theorem pow_small (k n V : Nat) (hn : n ≠ 0) (e : n * 10 ^ k = V) (hV : V < 340282366920938463463374607431768211456) : k < 39 := by
  rcases Nat.lt_or_ge k 39 with h | h
  · exact h
  · have h1 : 10 ^ 39 ≤ 10 ^ k := Nat.pow_le_pow_right (by omega) h
    have h2 : 1 * 10 ^ k ≤ n * 10 ^ k := Nat.mul_le_mul_right _ (by omega)
    have h3 : (10 : Nat) ^ 39 = 1000000000000000000000000000000000000000 := by decide
    omega

theorem made_cases (neg : Bool) (x y f : Int) (x0 : 0 ≤ x) (y0 : 0 ≤ y) (hr : wide x y % 10 ≠ 0) :
    ((x != 0) = true ∧ norm neg (wide x y) f = ((0, 0), 11)) ∨
    ((x != 0) = false ∧ decide (1000000000000000000 ≤ y) = true ∧ norm neg (wide x y) f = ((0, 0), 11)) ∨
    ((x != 0) = false ∧ decide (1000000000000000000 ≤ y) = false ∧ decide (f < -64) = true ∧ norm neg (wide x y) f = ((0, 0), 11)) ∨
    ((x != 0) = false ∧ decide (1000000000000000000 ≤ y) = false ∧ decide (f < -64) = false ∧ decide (64 < f) = true ∧ norm neg (wide x y) f = ((0, 0), 11)) ∨
    ((x != 0) = false ∧ decide (1000000000000000000 ≤ y) = false ∧ decide (f < -64) = false ∧ decide (64 < f) = false ∧ y < 1000000000000000000 ∧ norm neg (wide x y) f = ((if neg then -y else y, f), 0)) := by
  rw [norm_fin _ _ _ hr]
  unfold fin wide
  by_cases hx : x = 0
  · subst hx
    have e : (0 * 18446744073709551616 + y).toNat = y.toNat := by congr 1; omega
    rw [e]
    right
    by_cases hy : 1000000000000000000 ≤ y
    · left; exact ⟨rfl, by simpa using hy, by rw [if_pos (by omega)]⟩
    · right
      have hy' : decide (1000000000000000000 ≤ y) = false := by simpa using hy
      by_cases h1 : f < -64
      · left; exact ⟨rfl, hy', by simpa using h1, by rw [if_pos (by omega)]⟩
      · right
        by_cases h2 : 64 < f
        · left; exact ⟨rfl, hy', by simpa using h1, by simpa using h2, by rw [if_pos (by omega)]⟩
        · right; exact ⟨rfl, hy', by simpa using h1, by simpa using h2, by omega, by rw [if_neg (by omega), Int.toNat_of_nonneg y0]⟩
  · left
    exact ⟨by simpa using hx, by rw [if_pos (by omega)]⟩

end Th
namespace Th
/-- a whole number of either sign times a power of ten -/
def normZ (S e : Int) : (Int × Int) × Int := norm (decide (S < 0)) S.natAbs e

theorem norm_eq (neg : Bool) (m : Nat) (S e : Int) (h1 : m = S.natAbs) (h2 : m ≠ 0 → neg = decide (S < 0)) : norm neg m e = normZ S e := by
  unfold normZ
  by_cases h : m = 0
  · rw [← h1, h]; rfl
  · rw [h2 h, h1]

/-- the sum of two numbers, exactly, at an exponent below both -/
def sumZ (m1 e1 m2 e2 e : Int) : Int := m1 * (10 ^ (e1 - e).toNat : Nat) + m2 * (10 ^ (e2 - e).toNat : Nat)
def low (e1 e2 : Int) : Int := if e1 ≤ e2 then e1 else e2
def addN (m1 e1 m2 e2 : Int) : (Int × Int) × Int := if right m1 e1 && right m2 e2 then normZ (sumZ m1 e1 m2 e2 (low e1 e2)) (low e1 e2) else ((0, 0), 10)

theorem normZ_shift (S : Int) (k : Nat) (e : Int) : normZ (S * (10 ^ k : Nat)) e = normZ S (e + k) := by
  unfold normZ
  have hp : (0 : Int) < ((10 ^ k : Nat) : Int) := by have := Nat.pow_pos (n := k) (show 0 < 10 by omega); omega
  have h1 : (S * (10 ^ k : Nat)).natAbs = S.natAbs * 10 ^ k := by rw [Int.natAbs_mul]; rfl
  have h2 : decide (S * ((10 ^ k : Nat) : Int) < 0) = decide (S < 0) := by
    rw [decide_eq_decide]
    constructor
    · intro h
      by_cases h' : S < 0
      · exact h'
      · have := Int.mul_nonneg (show 0 ≤ S by omega) (Int.le_of_lt hp); omega
    · intro h; exact Int.mul_neg_of_neg_of_pos h hp
  rw [h1, h2, norm_shift]

theorem right_spec {m e : Int} (h : right m e = true) (hm : m ≠ 0) : m.natAbs < 1000000000000000000 ∧ m.natAbs % 10 ≠ 0 ∧ -64 ≤ e ∧ e ≤ 64 := by
  unfold right at h
  rw [if_neg hm] at h
  simp only [Bool.and_eq_true, decide_eq_true_eq] at h
  exact ⟨h.1.1.1, h.1.1.2, h.1.2, h.2⟩
theorem right_exp {m e : Int} (h : right m e = true) : -64 ≤ e ∧ e ≤ 64 := by
  by_cases hm : m = 0
  · subst hm; simp [right] at h; omega
  · exact (right_spec h hm).2.2
theorem right_size {m e : Int} (h : right m e = true) : m.natAbs < 1000000000000000000 := by
  by_cases hm : m = 0
  · subst hm; decide
  · exact (right_spec h hm).1

/-- a number that may be is its own one form -/
theorem normZ_right {m e : Int} (h : right m e = true) : normZ m e = ((m, e), 0) := by
  by_cases hm : m = 0
  · subst hm
    have : e = 0 := by simpa [right] using h
    subst this
    rfl
  · obtain ⟨h1, h2, h3, h4⟩ := right_spec h hm
    unfold normZ
    rw [norm_fin _ _ _ h2]
    unfold fin
    rw [if_neg (by omega)]
    by_cases hn : m < 0
    · simp only [hn, decide_true, ↓reduceIte]; congr 2; omega
    · simp only [hn, decide_false, Bool.false_eq_true, ↓reduceIte]; congr 2; omega

theorem sumZ_zero_left (m2 e1 e2 e : Int) : sumZ 0 e1 m2 e2 e = m2 * (10 ^ (e2 - e).toNat : Nat) := by unfold sumZ; simp
theorem sumZ_zero_right (m1 e1 e2 e : Int) : sumZ m1 e1 0 e2 e = m1 * (10 ^ (e1 - e).toNat : Nat) := by unfold sumZ; simp
theorem sumZ_comm (m1 e1 m2 e2 e : Int) : sumZ m1 e1 m2 e2 e = sumZ m2 e2 m1 e1 e := by unfold sumZ; rw [Int.add_comm]
theorem low_comm (a b : Int) : low a b = low b a := by unfold low; split <;> split <;> omega
theorem low_le (a b : Int) : low a b ≤ a ∧ low a b ≤ b := by unfold low; split <;> omega
theorem addN_comm (m1 e1 m2 e2 : Int) : addN m1 e1 m2 e2 = addN m2 e2 m1 e1 := by
  unfold addN; rw [sumZ_comm, low_comm, Bool.and_comm]

theorem addN_wrong {m1 e1 m2 e2 : Int} (h : right m1 e1 = false ∨ right m2 e2 = false) : addN m1 e1 m2 e2 = ((0, 0), 10) := by
  unfold addN
  rcases h with h | h <;> rw [h] <;> simp
theorem addN_zero_left {e1 m2 e2 : Int} (h1 : right 0 e1 = true) (h2 : right m2 e2 = true) : addN 0 e1 m2 e2 = ((m2, e2), 0) := by
  unfold addN
  rw [h1, h2]
  simp only [Bool.and_self, ↓reduceIte]
  rw [sumZ_zero_left, normZ_shift, show low e1 e2 + ((e2 - low e1 e2).toNat : Int) = e2 by have := low_le e1 e2; omega]
  exact normZ_right h2
theorem addN_zero_right {m1 e1 e2 : Int} (h1 : right m1 e1 = true) (h2 : right 0 e2 = true) : addN m1 e1 0 e2 = ((m1, e1), 0) := by
  rw [addN_comm]; exact addN_zero_left h2 h1

theorem natAbs_sum (a b : Int) : a.natAbs - b.natAbs ≤ (a + b).natAbs := by omega

/-- exponents too far apart: the sum has too many digits -/
theorem addN_far {m1 e1 m2 e2 : Int} (h1 : right m1 e1 = true) (h2 : right m2 e2 = true) (hm1 : m1 ≠ 0) (hm2 : m2 ≠ 0) (hd : 18 < e1 - e2) : addN m1 e1 m2 e2 = ((0, 0), 11) := by
  unfold addN
  rw [h1, h2]
  simp only [Bool.and_self, ↓reduceIte]
  have hl : low e1 e2 = e2 := by unfold low; rw [if_neg (by omega)]
  rw [hl]
  obtain ⟨a1, a2, a3, a4⟩ := right_spec h1 hm1
  obtain ⟨b1, b2, b3, b4⟩ := right_spec h2 hm2
  obtain ⟨k, hk⟩ : ∃ k : Nat, (e1 - e2).toNat = k + 19 := ⟨(e1 - e2).toNat - 19, by omega⟩
  have hS : sumZ m1 e1 m2 e2 e2 = m1 * (10 ^ k : Nat) * 10000000000000000000 + m2 := by
    unfold sumZ
    rw [hk, Nat.pow_add, show (e2 - e2).toNat = 0 by omega, Int.mul_assoc]
    simp
  have hp : 0 < 10 ^ k := Nat.pow_pos (by omega)
  have hq : 1 ≤ (m1 * (10 ^ k : Nat)).natAbs := by
    rw [Int.natAbs_mul]
    have : 1 ≤ m1.natAbs * (10 ^ k) := Nat.mul_pos (by omega) hp
    simpa using this
  rw [hS]
  generalize m1 * ((10 ^ k : Nat) : Int) = q at *
  unfold normZ
  rw [norm_fin _ _ _ (by omega)]
  unfold fin
  rw [if_pos (by omega)]

/-- a power of ten, as the table has it -/
def pten (d : Int) : Int := ((10 ^ d.toNat : Nat) : Int)
theorem pten_bd (d : Int) (h0 : 0 ≤ d) (h1 : d ≤ 18) : 1 ≤ pten d ∧ pten d ≤ 1000000000000000000 := by
  unfold pten
  have h2 : (10 : Nat) ^ d.toNat ≤ 10 ^ 18 := Nat.pow_le_pow_right (by omega) (by omega)
  have h3 : 0 < (10 : Nat) ^ d.toNat := Nat.pow_pos (by omega)
  omega

theorem add_near {M1 E1 M2 E2 : Int} (h1 : right M1 E1 = true) (h2 : right M2 E2 = true) (hd : 0 ≤ E1 - E2) : addN M1 E1 M2 E2 = normZ (M1 * pten (E1 - E2) + M2) E2 := by
  have hl : low E1 E2 = E2 := by unfold low; split <;> omega
  unfold addN
  rw [h1, h2, hl]
  simp only [Bool.and_self, ↓reduceIte]
  unfold sumZ pten
  rw [show (E2 - E2).toNat = 0 by omega]
  simp
def mhi (x y : Int) : Int := x * y / 18446744073709551616
def mlo (x y : Int) : Int := x * y % 18446744073709551616
def alo (x y : Int) : Int := (x + y) % 18446744073709551616
def ahi (x y : Int) : Int := (x + y) / 18446744073709551616
def slo (x y : Int) : Int := (x - y) % 18446744073709551616
def shi (x y : Int) : Int := if x < y then 1 else 0

theorem mul_nonneg' {A T : Int} (h1 : 0 ≤ A) (h2 : 0 ≤ T) : 0 ≤ A * T := Int.mul_nonneg h1 h2
theorem mhi_bd {A T : Int} (h1 : 0 ≤ A) (h2 : A ≤ 1000000000000000000) (h3 : 0 ≤ T) (h4 : T ≤ 1000000000000000000) : 0 ≤ mhi A T ∧ mhi A T ≤ 1000000000000000000 := by
  have h5 : A * T ≤ 1000000000000000000 * 1000000000000000000 := Int.mul_le_mul h2 h4 h3 (by omega)
  have h6 := mul_nonneg' h1 h3
  unfold mhi
  generalize A * T = x at *
  omega
theorem mlo_bd (A T : Int) : 0 ≤ mlo A T ∧ mlo A T < 18446744073709551616 := by unfold mlo; omega
theorem alo_bd (x y : Int) : 0 ≤ alo x y ∧ alo x y < 18446744073709551616 := by unfold alo; omega
theorem slo_bd (x y : Int) : 0 ≤ slo x y ∧ slo x y < 18446744073709551616 := by unfold slo; omega
theorem shi_bd (x y : Int) : 0 ≤ shi x y ∧ shi x y ≤ 1 := by unfold shi; split <;> omega
theorem ahi_bd {x y : Int} (h1 : 0 ≤ x) (h2 : x < 18446744073709551616) (h3 : 0 ≤ y) (h4 : y < 18446744073709551616) : 0 ≤ ahi x y ∧ ahi x y ≤ 1 := by unfold ahi; omega

theorem sign_same {a b : Int} (ha : a ≠ 0) (hb : b ≠ 0) : (a.sign == b.sign) = true ↔ (a < 0 ↔ b < 0) := by
  simp only [beq_iff_eq]
  rcases Int.lt_trichotomy a 0 with h | h | h <;> rcases Int.lt_trichotomy b 0 with h' | h' | h'
  all_goals first | omega | skip
  · rw [Int.sign_eq_neg_one_of_neg h, Int.sign_eq_neg_one_of_neg h']; simp [h, h']
  · rw [Int.sign_eq_neg_one_of_neg h, Int.sign_eq_one_of_pos h']; simp; omega
  · rw [Int.sign_eq_one_of_pos h, Int.sign_eq_neg_one_of_neg h']; simp; omega
  · rw [Int.sign_eq_one_of_pos h, Int.sign_eq_one_of_pos h']; simp; omega

/-- the ends of Add -/
theorem add_end1 {m1 m2 A B T e : Int} (hA : (m1.natAbs : Int) = A) (hB : (m2.natAbs : Int) = B) (hT : 1 ≤ T) (h1 : m1 ≠ 0) (h2 : m2 ≠ 0) (hs : (m1.sign == m2.sign) = true) :
    norm (decide (m1 < 0)) (wide (mhi A T + ahi (mlo A T) B) (alo (mlo A T) B)) e = normZ (m1 * T + m2) e := by
  rw [sign_same h1 h2] at hs
  have hw : wide (mhi A T + ahi (mlo A T) B) (alo (mlo A T) B) = (A * T + B).toNat := by unfold wide mhi ahi mlo alo; omega
  rw [hw]
  apply norm_eq
  · by_cases hn : m1 < 0
    · have h4 : A = -m1 := by omega
      have h5 : B = -m2 := by omega
      have h3 := Int.mul_neg_of_neg_of_pos hn (show 0 < T by omega)
      rw [h4, h5, Int.neg_mul]; omega
    · have h4 : A = m1 := by omega
      have h5 : B = m2 := by omega
      have h3 := Int.mul_pos (show 0 < m1 by omega) (show 0 < T by omega)
      rw [h4, h5]; omega
  · intro _
    rw [decide_eq_decide]
    constructor
    · intro hn
      have h3 := Int.mul_neg_of_neg_of_pos hn (show 0 < T by omega)
      omega
    · intro hn
      by_cases h : m1 < 0
      · exact h
      · have h3 := Int.mul_pos (show 0 < m1 by omega) (show 0 < T by omega)
        omega

theorem add_end2 {m1 m2 A B T e : Int} (hA : (m1.natAbs : Int) = A) (hB : (m2.natAbs : Int) = B) (hT : 1 ≤ T) (h1 : m1 ≠ 0) (h2 : m2 ≠ 0) (hs : (m1.sign == m2.sign) = false) (hh : mhi A T = 0) (hl : mlo A T < B) :
    norm (decide (m2 < 0)) (wide 0 (B - mlo A T)) e = normZ (m1 * T + m2) e := by
  have hs' : ¬ (m1 < 0 ↔ m2 < 0) := by rw [← sign_same h1 h2, hs]; simp
  have hw : wide 0 (B - mlo A T) = (B - A * T).toNat := by unfold wide mhi mlo at *; omega
  have hlt : A * T < B := by unfold mhi mlo at *; omega
  rw [hw]
  apply norm_eq
  · by_cases hn : m1 < 0
    · have h4 : A = -m1 := by omega
      have h5 : B = m2 := by omega
      rw [h4, Int.neg_mul] at hlt ⊢
      have h3 := Int.mul_neg_of_neg_of_pos hn (show 0 < T by omega)
      omega
    · have h4 : A = m1 := by omega
      have h5 : B = -m2 := by omega
      rw [h4] at hlt ⊢
      omega
  · intro _
    rw [decide_eq_decide]
    by_cases hn : m1 < 0
    · have h4 : A = -m1 := by omega
      rw [h4, Int.neg_mul] at hlt
      omega
    · have h4 : A = m1 := by omega
      rw [h4] at hlt
      omega

theorem add_end3 {m1 m2 A B T e : Int} (hA : (m1.natAbs : Int) = A) (hB : (m2.natAbs : Int) = B) (hT : 1 ≤ T) (h1 : m1 ≠ 0) (h2 : m2 ≠ 0) (hB1 : B < 1000000000000000000) (hs : (m1.sign == m2.sign) = false) (hh : ¬ (mhi A T = 0 ∧ mlo A T < B)) :
    norm (decide (m1 < 0)) (wide (mhi A T - shi (mlo A T) B) (slo (mlo A T) B)) e = normZ (m1 * T + m2) e := by
  have hs' : ¬ (m1 < 0 ↔ m2 < 0) := by rw [← sign_same h1 h2, hs]; simp
  have h0 : 0 ≤ A * T := Int.mul_nonneg (by omega) (by omega)
  have hge : B ≤ A * T := by unfold mhi mlo at hh; omega
  have hw : wide (mhi A T - shi (mlo A T) B) (slo (mlo A T) B) = (A * T - B).toNat := by
    unfold wide mhi shi slo mlo; split <;> omega
  rw [hw]
  apply norm_eq
  · by_cases hn : m1 < 0
    · have h4 : A = -m1 := by omega
      rw [h4, Int.neg_mul] at hge ⊢
      omega
    · have h4 : A = m1 := by omega
      rw [h4] at hge ⊢
      omega
  · intro hne
    rw [decide_eq_decide]
    by_cases hn : m1 < 0
    · have h4 : A = -m1 := by omega
      rw [h4, Int.neg_mul] at hge hne
      omega
    · have h4 : A = m1 := by omega
      rw [h4] at hge hne
      omega
theorem carry_ok {A B T : Int} (h1 : 0 ≤ A) (h2 : A < 1000000000000000000) (h3 : 1 ≤ T) (h4 : T ≤ 1000000000000000000) (_hB : B < 1000000000000000000) (hh : ¬ (mhi A T = 0 ∧ mlo A T < B)) : 0 ≤ mhi A T - shi (mlo A T) B ∧ mhi A T - shi (mlo A T) B ≤ 1000000000000000000 := by
  have := mhi_bd h1 (show A ≤ 1000000000000000000 by omega) (show 0 ≤ T by omega) h4
  unfold shi; split <;> omega
end Th
namespace Th

/-- how many digits a text begins with -/
def nDig : List UInt8 → Nat
  | [] => 0
  | c :: l => if 48 ≤ c.toNat ∧ c.toNat ≤ 57 then nDig l + 1 else 0

theorem nDig_le (l : List UInt8) : nDig l ≤ l.length := by
  induction l with
  | nil => simp [nDig]
  | cons c l ih => simp only [nDig, List.length_cons]; split <;> omega

theorem nDig_get (l : List UInt8) : ∀ (k : Nat) (h : k < l.length), k < nDig l → 48 ≤ l[k].toNat ∧ l[k].toNat ≤ 57 := by
  induction l with
  | nil => intro k h; simp at h
  | cons c l ih =>
    intro k h hk
    simp only [nDig] at hk
    split at hk
    · rename_i hc
      cases k with
      | zero => exact hc
      | succ k => exact ih k (by simpa using h) (by omega)
    · omega

/-- a digit's number -/
def dg (c : UInt8) : Nat := c.toNat - 48
def dgs (l : List UInt8) : List Nat := l.map dg
theorem dgs_digs (l : List UInt8) (h : nDig l = l.length) : Digs (dgs l) := by
  intro d hd
  obtain ⟨c, hc, rfl⟩ := List.mem_map.1 hd
  obtain ⟨k, hk, rfl⟩ := List.getElem_of_mem hc
  have := nDig_get l k hk (by omega)
  unfold dg; omega

/-- an exponent, cut off -/
def clampN (l : List UInt8) : Nat := l.foldl (fun a c => min (a * 10 + dg c) 1099511627776) 0
theorem clampN_snoc (l : List UInt8) (c : UInt8) : clampN (l ++ [c]) = min (clampN l * 10 + dg c) 1099511627776 := by
  unfold clampN; rw [List.foldl_append]; rfl
theorem clamp_fold (l : List UInt8) : ∀ a : Nat, l.foldl (fun a c => min (a * 10 + dg c) 1099511627776) (min a 1099511627776) = min (l.foldl (fun a c => a * 10 + dg c) a) 1099511627776 := by
  induction l with
  | nil => intro a; rfl
  | cons c l ih =>
    intro a
    simp only [List.foldl_cons]
    rw [← ih, show min (min a 1099511627776 * 10 + dg c) 1099511627776 = min (a * 10 + dg c) 1099511627776 by omega]
theorem clampN_eq (l : List UInt8) : clampN l = min (val (dgs l)) 1099511627776 := by
  have h := clamp_fold l 0
  unfold clampN val dgs
  rw [List.foldl_map]
  exact h
theorem clampN_le (l : List UInt8) : clampN l ≤ 1099511627776 := by rw [clampN_eq]; omega

def chkE (neg : Bool) (u : List UInt8) : Option (Bool × List UInt8) := if nDig u = 0 ∨ nDig u < u.length then none else some (neg, u)
/-- what an exponent's text is: below zero?, and its digits -/
def expoP (l : List UInt8) : Option (Bool × List UInt8) :=
  if l = [] then some (false, []) else
  if l.head? = some 101 ∨ l.head? = some 69 then
    (if (l.drop 1).head? = some 45 then chkE true (l.drop 2) else if (l.drop 1).head? = some 43 then chkE false (l.drop 2) else chkE false (l.drop 1))
  else none
def sg (neg : Bool) (n : Int) : Int := if neg then -n else n
end Th
namespace Th
open Go

/-- all bytes are digits -/
def AllDig (l : List UInt8) : Prop := ∀ c ∈ l, 48 ≤ c.toNat ∧ c.toNat ≤ 57
theorem allDig_take (l : List UInt8) : AllDig (l.take (nDig l)) := by
  intro c hc
  obtain ⟨k, hk, rfl⟩ := List.getElem_of_mem hc
  rw [List.length_take] at hk
  rw [List.getElem_take]
  exact nDig_get l k (by omega) (by omega)
theorem allDig_append {a b : List UInt8} (ha : AllDig a) (hb : AllDig b) : AllDig (a ++ b) := by
  intro c hc
  rcases List.mem_append.1 hc with h | h
  · exact ha c h
  · exact hb c h
theorem nDig_all (l : List UInt8) (h : AllDig l) : nDig l = l.length := by
  induction l with
  | nil => rfl
  | cons c l ih => rw [nDig, if_pos (h c (by simp)), ih (fun d hd => h d (by simp [hd]))]; rfl
theorem dgs_all (l : List UInt8) (h : AllDig l) : Digs (dgs l) := dgs_digs l (nDig_all l h)
theorem dgs_append (a b : List UInt8) : dgs (a ++ b) = dgs a ++ dgs b := List.map_append
theorem dgs_length (a : List UInt8) : (dgs a).length = a.length := by simp [dgs]

theorem val_trimLeft (l : List UInt8) : val (dgs (Lib.trimLeftB l 48)) = val (dgs l) := by
  unfold Lib.trimLeftB
  induction l with
  | nil => rfl
  | cons c l ih =>
    rw [List.dropWhile_cons]
    split
    · rename_i h
      have : c = 48 := by simpa using h
      subst this
      rw [ih]
      show _ = val (dg 48 :: dgs l)
      rw [val_cons]; simp [dg]
    · rfl
theorem val_rev (r : List UInt8) : (r.dropWhile (· == 48)).length ≤ r.length ∧ val (dgs r.reverse) = val (dgs (r.dropWhile (· == 48)).reverse) * 10 ^ (r.length - (r.dropWhile (· == 48)).length) := by
  induction r with
  | nil => exact ⟨Nat.le_refl _, rfl⟩
  | cons c r ih =>
    rw [List.dropWhile_cons]
    split
    · rename_i h
      have : c = 48 := by simpa using h
      subst this
      obtain ⟨h1, h2⟩ := ih
      refine ⟨by simp only [List.length_cons]; omega, ?_⟩
      rw [List.reverse_cons, dgs_append, show dgs [48] = [0] by rfl, val_snoc, h2, List.length_cons, show r.length + 1 - (r.dropWhile (· == 48)).length = (r.length - (r.dropWhile (· == 48)).length) + 1 by omega, Nat.pow_succ]
      simp [Nat.mul_assoc]
    · simp
theorem val_trimRight (l : List UInt8) : (Lib.trimRightB l 48).length ≤ l.length ∧ val (dgs l) = val (dgs (Lib.trimRightB l 48)) * 10 ^ (l.length - (Lib.trimRightB l 48).length) := by
  have h := val_rev l.reverse
  rw [List.reverse_reverse, List.length_reverse] at h
  unfold Lib.trimRightB
  rw [List.length_reverse]
  exact h
theorem trimLeft_length (l : List UInt8) (c : UInt8) : (Lib.trimLeftB l c).length ≤ l.length := by
  unfold Lib.trimLeftB
  exact List.Sublist.length_le (List.dropWhile_sublist _)
theorem trimLeft_mem {l : List UInt8} {c x : UInt8} (h : x ∈ Lib.trimLeftB l c) : x ∈ l := (List.dropWhile_sublist _).subset h
theorem trimRight_mem {l : List UInt8} {c x : UInt8} (h : x ∈ Lib.trimRightB l c) : x ∈ l := by
  unfold Lib.trimRightB at h
  have := (List.dropWhile_sublist _).subset (List.mem_reverse.1 h)
  simpa using this
theorem trimLeft_head (l : List UInt8) (c x : UInt8) (t : List UInt8) (h : Lib.trimLeftB l c = x :: t) : x ≠ c := by
  unfold Lib.trimLeftB at h
  have h2 := List.head?_dropWhile_not (· == c) l
  rw [h] at h2
  simpa using h2
theorem trimRight_prefix (l : List UInt8) (c : UInt8) : Lib.trimRightB l c <+: l := by
  unfold Lib.trimRightB
  have := List.dropWhile_suffix (l := l.reverse) (· == c)
  have h2 := List.reverse_prefix.2 this
  rwa [List.reverse_reverse] at h2
theorem trimRight_last (l : List UInt8) (c : UInt8) (t : List UInt8) (x : UInt8) (h : Lib.trimRightB l c = t ++ [x]) : x ≠ c := by
  unfold Lib.trimRightB at h
  have h1 := congrArg List.reverse h
  rw [List.reverse_reverse, List.reverse_append] at h1
  exact trimLeft_head l.reverse c x t.reverse h1

/-- what a row of digits is worth, with the noughts of both its ends taken off -/
theorem trim_val (l : List UInt8) (hl : AllDig l) (L T : List UInt8) (hL : Lib.trimLeftB l 48 = L) (hT : Lib.trimRightB L 48 = T) :
    L.length ≤ l.length ∧ T.length ≤ L.length ∧ AllDig T ∧ val (dgs l) = val (dgs T) * 10 ^ (L.length - T.length) ∧ (T = [] → val (dgs l) = 0) ∧
    (T ≠ [] → val (dgs T) % 10 ≠ 0 ∧ 10 ^ (T.length - 1) ≤ val (dgs T)) := by
  have hTd : AllDig T := fun c hc => hl c (by subst hL hT; exact trimLeft_mem (trimRight_mem hc))
  have h1 := val_trimLeft l
  have h2 := val_trimRight L
  rw [hL] at h1
  rw [hT] at h2
  have he : val (dgs l) = val (dgs T) * 10 ^ (L.length - T.length) := by rw [← h1]; exact h2.2
  refine ⟨by rw [← hL]; exact trimLeft_length _ _, h2.1, hTd, he, ?_, ?_⟩
  · intro h0; rw [he, h0]; simp [dgs, val]
  · intro h0
    constructor
    · have hs : T = T.dropLast ++ [T.getLast h0] := (List.dropLast_concat_getLast h0).symm
      have hx := trimRight_last L 48 _ _ (hT.trans hs)
      have hd := hTd (T.getLast h0) (List.getLast_mem h0)
      rw [hs, dgs_append, show dgs [T.getLast h0] = [dg (T.getLast h0)] from rfl, val_snoc]
      have : (T.getLast h0).toNat ≠ 48 := fun h => hx (UInt8.toNat.inj h)
      unfold dg
      omega
    · cases hTT : T with
      | nil => exact absurd hTT h0
      | cons x t =>
        have hp := trimRight_prefix L 48
        rw [hT, hTT] at hp
        obtain ⟨r, hr⟩ := hp
        have hx := trimLeft_head l 48 x (t ++ r) (by rw [hL, ← hr]; rfl)
        have hd := hTd x (by rw [hTT]; simp)
        have : x.toNat ≠ 48 := fun h => hx (UInt8.toNat.inj h)
        have := val_ge (dg x) (dgs t) (by unfold dg; omega)
        rw [dgs_length] at this
        exact this

/-- the digits behind a point, and what is left -/
def fracP (r : List UInt8) : Option (List UInt8 × List UInt8) :=
  if r.head? = some 46 then (if nDig (r.drop 1) = 0 then none else some ((r.drop 1).take (nDig (r.drop 1)), (r.drop 1).drop (nDig (r.drop 1)))) else some ([], r)
/-- a text without its sign: its digits, and how far they are moved -/
def coreP (u : List UInt8) : Option (List UInt8 × Int) :=
  if nDig u = 0 ∨ (1 < nDig u ∧ u.head? = some 48) then none else
  match fracP (u.drop (nDig u)) with
  | none => none
  | some (f, r) => match expoP r with
    | none => none
    | some (en, x) => some (u.take (nDig u) ++ f, sg en (clampN x) - f.length)
def coreN (neg : Bool) (u : List UInt8) : (Int × Int) × Int := match coreP u with
  | none => ((0, 0), 10)
  | some (ds, e) => norm neg (val (dgs ds)) e
/-- the number that a text is, or that it is none -/
def parseN (l : List UInt8) : (Int × Int) × Int := if l.head? = some 45 then coreN true (l.drop 1) else coreN false l

theorem core_bad (neg : Bool) (u : List UInt8) (h : nDig u = 0 ∨ (1 < nDig u ∧ u.head? = some 48)) : coreN neg u = ((0, 0), 10) := by
  unfold coreN coreP; rw [if_pos h]
theorem core_frac (neg : Bool) (u : List UInt8) (h : fracP (u.drop (nDig u)) = none) : coreN neg u = ((0, 0), 10) := by
  unfold coreN coreP; split <;> rename_i h2
  · rfl
  · split at h2
    · cases h2
    · rw [h] at h2; cases h2
theorem core_expo (neg : Bool) (u f r : List UInt8) (h : fracP (u.drop (nDig u)) = some (f, r)) (he : expoP r = none) : coreN neg u = ((0, 0), 10) := by
  unfold coreN coreP; split <;> rename_i h2
  · rfl
  · split at h2
    · cases h2
    · rw [h] at h2; simp only [he] at h2; cases h2
theorem core_good (neg : Bool) (u f r x : List UInt8) (en : Bool) (h : ¬ (nDig u = 0 ∨ (1 < nDig u ∧ u.head? = some 48))) (hf : fracP (u.drop (nDig u)) = some (f, r)) (he : expoP r = some (en, x)) :
    coreN neg u = norm neg (val (dgs (u.take (nDig u) ++ f))) (sg en (clampN x) - f.length) := by
  unfold coreN coreP; rw [if_neg h, hf]; simp only [he]
end Th
namespace Th

/-- the quotient of two sizes, times ten to the e, or that it has no end -/
def divR (a b : Nat) (neg : Bool) (e : Int) : (Int × Int) × Int :=
  if b ∣ a * 10 ^ 100 then norm neg (a * 10 ^ 100 / b) (e - 100) else ((0, 0), 11)

/-- what holds in each round -/
structure DivInv (n0 d0 n d k : Nat) : Prop where
  eq : n * d0 = n0 * 10 ^ k * d
  cop : Nat.Coprime n d
  pos : 0 < d
  dec : d * 2 ^ k ≤ d0

theorem DivInv.start {n d : Nat} (h : Nat.Coprime n d) (hd : 0 < d) : DivInv n d n d 0 := ⟨by simp, h, hd, by simp⟩
theorem DivInv.ten {n0 d0 n d k : Nat} (h : DivInv n0 d0 n d k) (hd : d % 10 = 0) : DivInv n0 d0 n (d / 10) (k + 1) := by
  obtain ⟨c, rfl⟩ : ∃ c, d = 10 * c := ⟨d / 10, by omega⟩
  have hp := h.pos
  have e1 : 10 * c / 10 = c := by omega
  rw [e1]
  refine ⟨?_, h.cop.coprime_dvd_right ⟨10, by omega⟩, by omega, ?_⟩
  · rw [h.eq, Nat.pow_succ, Nat.mul_assoc, Nat.mul_assoc, Nat.mul_assoc]
  · have := h.dec; rw [Nat.pow_succ]
    have : c * (2 ^ k * 2) = 2 * (c * 2 ^ k) := by rw [← Nat.mul_assoc]; omega
    have : 10 * c * 2 ^ k = 10 * (c * 2 ^ k) := Nat.mul_assoc _ _ _
    omega
theorem coprime_of_dvd {n d p : Nat} (h : Nat.Coprime n d) (hp : 1 < p) (hd : p ∣ d) : ¬ p ∣ n := by
  intro hn
  have := Nat.dvd_gcd hn hd
  rw [h] at this
  have := Nat.le_of_dvd (by omega) this
  omega
theorem cop2 {c : Nat} (h : c % 2 ≠ 0) : Nat.Coprime 2 c := by
  unfold Nat.Coprime
  rw [Nat.gcd_rec, show c % 2 = 1 by omega]; decide
theorem cop5 {c : Nat} (h : c % 5 ≠ 0) : Nat.Coprime 5 c := by
  unfold Nat.Coprime
  have : c % 5 < 5 := by omega
  rw [Nat.gcd_rec]
  generalize c % 5 = r at *
  have : r = 1 ∨ r = 2 ∨ r = 3 ∨ r = 4 := by omega
  rcases this with rfl | rfl | rfl | rfl <;> decide
theorem DivInv.five {n0 d0 n d k : Nat} (h : DivInv n0 d0 n d k) (h10 : d % 10 ≠ 0) (hd : d % 5 = 0) : DivInv n0 d0 (n * 2) (d / 5) (k + 1) ∧ (n * 2) % 10 ≠ 0 := by
  obtain ⟨c, rfl⟩ : ∃ c, d = 5 * c := ⟨d / 5, by omega⟩
  have hp := h.pos
  have e1 : 5 * c / 5 = c := by omega
  have hn := coprime_of_dvd h.cop (p := 5) (by omega) ⟨c, rfl⟩
  rw [e1]
  refine ⟨⟨?_, ?_, by omega, ?_⟩, by omega⟩
  · rw [Nat.mul_right_comm, h.eq, Nat.pow_succ, show (10 : Nat) = 5 * 2 by rfl]
    simp only [Nat.mul_assoc, Nat.mul_left_comm, Nat.mul_comm]
  · exact Nat.Coprime.mul_left (h.cop.coprime_dvd_right ⟨5, by omega⟩) (cop2 (by omega))
  · have := h.dec; rw [Nat.pow_succ]
    have : c * (2 ^ k * 2) = 2 * (c * 2 ^ k) := by rw [← Nat.mul_assoc]; omega
    have : 5 * c * 2 ^ k = 5 * (c * 2 ^ k) := Nat.mul_assoc _ _ _
    omega
theorem DivInv.two {n0 d0 n d k : Nat} (h : DivInv n0 d0 n d k) (h5 : d % 5 ≠ 0) (hd : d % 2 = 0) : DivInv n0 d0 (n * 5) (d / 2) (k + 1) ∧ (n * 5) % 10 ≠ 0 := by
  obtain ⟨c, rfl⟩ : ∃ c, d = 2 * c := ⟨d / 2, by omega⟩
  have hp := h.pos
  have e1 : 2 * c / 2 = c := by omega
  have hn := coprime_of_dvd h.cop (p := 2) (by omega) ⟨c, rfl⟩
  rw [e1]
  refine ⟨⟨?_, ?_, by omega, ?_⟩, by omega⟩
  · rw [Nat.mul_right_comm, h.eq, Nat.pow_succ, show (10 : Nat) = 2 * 5 by rfl]
    simp only [Nat.mul_assoc, Nat.mul_left_comm, Nat.mul_comm]
  · exact Nat.Coprime.mul_left (h.cop.coprime_dvd_right ⟨2, by omega⟩) (cop5 (by omega))
  · have := h.dec; rw [Nat.pow_succ]
    have : c * (2 ^ k * 2) = 2 * (c * 2 ^ k) := by rw [← Nat.mul_assoc]; omega
    have : 2 * c * 2 ^ k = 2 * (c * 2 ^ k) := Nat.mul_assoc _ _ _
    omega

theorem k_small {n0 d0 n d k : Nat} (h : DivInv n0 d0 n d k) (hd : d0 < 2 ^ 64) : k < 64 := by
  have h1 := h.dec
  have h2 := h.pos
  have : 2 ^ k ≤ d * 2 ^ k := Nat.le_mul_of_pos_left _ h2
  exact (Nat.pow_lt_pow_iff_right (a := 2) (by omega)).1 (by omega)

theorem divR_end {n0 d0 n d k : Nat} (h : DivInv n0 d0 n d k) (h1 : d ≤ 1) (hd : d0 < 2 ^ 64) (neg : Bool) (e : Int) : divR n0 d0 neg e = norm neg n (e - k) := by
  have hk := k_small h hd
  have hp := h.pos
  have hd0 : 0 < d0 := by
    have := h.dec
    have : 0 < d * 2 ^ k := Nat.mul_pos hp (Nat.pow_pos (by omega))
    omega
  have he := h.eq
  rw [show d = 1 by omega, Nat.mul_one] at he
  have h10 : n0 * 10 ^ 100 = d0 * (n * 10 ^ (100 - k)) := by
    rw [show (10 : Nat) ^ 100 = 10 ^ k * 10 ^ (100 - k) by rw [← Nat.pow_add]; congr 1; omega, ← Nat.mul_assoc, ← he, Nat.mul_comm n d0, Nat.mul_assoc]
  unfold divR
  rw [if_pos ⟨_, h10⟩, h10, Nat.mul_div_cancel_left _ hd0, norm_shift]
  congr 1; omega

theorem divR_none {n0 d0 n d k : Nat} (h : DivInv n0 d0 n d k) (hc : Nat.Coprime n0 d0) (h1 : 1 < d) (h2 : d % 2 ≠ 0) (h5 : d % 5 ≠ 0) (neg : Bool) (e : Int) : divR n0 d0 neg e = ((0, 0), 11) := by
  unfold divR
  rw [if_neg]
  intro hd
  have g1 : d0 ∣ 10 ^ 100 := Nat.Coprime.dvd_of_dvd_mul_left hc.symm hd
  have g2 : d ∣ d0 := Nat.Coprime.dvd_of_dvd_mul_left h.cop.symm ⟨n0 * 10 ^ k, by rw [h.eq, Nat.mul_comm]⟩
  have g3 : Nat.Coprime d 10 := by
    have := Nat.Coprime.mul_left (cop2 h2) (cop5 h5)
    exact this.symm
  have g4 : Nat.Coprime d (10 ^ 100) := Nat.Coprime.pow_right _ g3
  have := Nat.Coprime.eq_one_of_dvd g4 (Nat.dvd_trans g2 g1)
  omega

theorem divR_over {n0 d0 n d k : Nat} (h : DivInv n0 d0 n d k) (hn0 : 0 < n0) (hbig : 18446744073709551616 ≤ n) (h10 : n % 10 ≠ 0) (neg : Bool) (e : Int) : divR n0 d0 neg e = ((0, 0), 11) := by
  unfold divR
  split
  case isFalse => rfl
  case isTrue hd =>
    obtain ⟨q, hq⟩ := hd
    have hp := h.pos
    have hd0 : 0 < d0 := by
      have := h.dec
      have : 0 < d * 2 ^ k := Nat.mul_pos hp (Nat.pow_pos (by omega))
      omega
    rw [hq, Nat.mul_div_cancel_left _ hd0]
    have hq0 : q ≠ 0 := by
      rintro rfl
      have : 0 < n0 * 10 ^ 100 := Nat.mul_pos hn0 (Nat.pow_pos (by omega))
      omega
    obtain ⟨a, t, ha, rfl⟩ := exists_form q hq0
    have h1 : a * (10 ^ (t + k) * d) = n * 10 ^ 100 := by
      refine Nat.eq_of_mul_eq_mul_left hn0 ?_
      have g1 : n0 * (n * 10 ^ 100) = n * (d0 * (a * 10 ^ t)) := by rw [← hq]; exact Nat.mul_left_comm _ _ _
      have g2 : n * (d0 * (a * 10 ^ t)) = n0 * 10 ^ k * d * (a * 10 ^ t) := by rw [← Nat.mul_assoc, h.eq]
      rw [g1, g2, Nat.pow_add]
      generalize (10 : Nat) ^ t = x
      generalize (10 : Nat) ^ k = y
      simp only [Nat.mul_left_comm, Nat.mul_comm]
    have hge : n ≤ a := by
      by_cases hlt : t + k ≤ 100
      · have h2 : a * d = n * 10 ^ (100 - (t + k)) := by
          refine Nat.eq_of_mul_eq_mul_left (n := 10 ^ (t + k)) (Nat.pow_pos (by omega)) ?_
          have e1 : (10 : Nat) ^ 100 = 10 ^ (t + k) * 10 ^ (100 - (t + k)) := by rw [← Nat.pow_add]; congr 1; omega
          rw [e1] at h1
          rw [Nat.mul_left_comm, h1, Nat.mul_left_comm]
        have h3 : d ∣ 10 ^ (100 - (t + k)) := Nat.Coprime.dvd_of_dvd_mul_left h.cop.symm ⟨a, by rw [← h2, Nat.mul_comm]⟩
        obtain ⟨c, hc⟩ := h3
        have hc0 : 0 < c := by
          rcases Nat.eq_zero_or_pos c with rfl | h
          · have : 0 < 10 ^ (100 - (t + k)) := Nat.pow_pos (by omega)
            omega
          · exact h
        rw [hc, Nat.mul_left_comm, Nat.mul_comm a d] at h2
        have h4 := Nat.eq_of_mul_eq_mul_left hp h2
        rw [h4]
        exact Nat.le_mul_of_pos_right _ hc0
      · exfalso
        have e1 : (10 : Nat) ^ (t + k) = 10 ^ 100 * (10 ^ (t + k - 101) * 10) := by
          rw [← Nat.pow_succ, ← Nat.pow_add]; congr 1; omega
        have h2 : a * (10 ^ (t + k - 101) * 10 * d) = n := by
          refine Nat.eq_of_mul_eq_mul_left (n := 10 ^ 100) (Nat.pow_pos (by omega)) ?_
          rw [e1] at h1
          rw [Nat.mul_comm (10 ^ 100) n, ← h1, Nat.mul_left_comm, ← Nat.mul_assoc]
          simp only [Nat.mul_assoc, Nat.mul_left_comm]
        apply h10
        rw [← h2, show a * (10 ^ (t + k - 101) * 10 * d) = 10 * (a * (10 ^ (t + k - 101) * d)) by simp only [Nat.mul_left_comm, Nat.mul_comm]]
        omega
    rw [norm_of _ _ _ _ ha]
    unfold fin
    rw [if_pos (.inl (by omega))]

theorem divR_reduce (a b : Nat) (hb : 0 < b) (neg : Bool) (e : Int) : divR a b neg e = divR (a / Nat.gcd a b) (b / Nat.gcd a b) neg e := by
  have hg : 0 < Nat.gcd a b := Nat.gcd_pos_of_pos_right _ hb
  obtain ⟨x, hx⟩ := Nat.gcd_dvd_left a b
  obtain ⟨y, hy⟩ := Nat.gcd_dvd_right a b
  generalize Nat.gcd a b = g at *
  subst hx hy
  rw [Nat.mul_div_cancel_left _ hg, Nat.mul_div_cancel_left _ hg]
  unfold divR
  rw [Nat.mul_assoc, Nat.mul_div_mul_left _ _ hg]
  simp only [Nat.mul_dvd_mul_iff_left hg]
theorem reduce_coprime (a b : Nat) (hb : 0 < b) : Nat.Coprime (a / Nat.gcd a b) (b / Nat.gcd a b) := Nat.coprime_div_gcd_div_gcd (Nat.gcd_pos_of_pos_right _ hb)
theorem divR_zero (b : Nat) (neg : Bool) (e : Int) : divR 0 b neg e = ((0, 0), 0) := by
  unfold divR; rw [if_pos (by simp)]; simp [norm_zero]
end Th
