/- Plain arithmetic for the numbers of layer 1: digits, their value, the one form of a number. No conditions: it imports no program. -/
namespace Th

/-- the value of digits, the highest first -/
def val (ds : List Nat) : Nat := ds.foldl (fun a d => a * 10 + d) 0

theorem foldl_val (ds : List Nat) (a : Nat) : ds.foldl (fun a d => a * 10 + d) a = a * 10 ^ ds.length + val ds := by
  unfold val
  induction ds generalizing a with
  | nil => simp
  | cons d ds ih =>
    simp only [List.foldl_cons, List.length_cons]
    rw [ih (a * 10 + d), ih (0 * 10 + d)]
    simp only [Nat.zero_mul, Nat.zero_add, Nat.pow_succ, Nat.add_mul]
    rw [Nat.mul_assoc, Nat.mul_comm 10]
    omega

@[simp] theorem val_nil : val [] = 0 := rfl
theorem val_cons (d : Nat) (ds : List Nat) : val (d :: ds) = d * 10 ^ ds.length + val ds := by
  show (d :: ds).foldl _ 0 = _
  rw [List.foldl_cons, foldl_val]; simp
theorem val_snoc (ds : List Nat) (d : Nat) : val (ds ++ [d]) = val ds * 10 + d := by
  unfold val; rw [List.foldl_append]; rfl
theorem val_append (a b : List Nat) : val (a ++ b) = val a * 10 ^ b.length + val b := by
  unfold val; rw [List.foldl_append, foldl_val]; rfl

def Digs (ds : List Nat) : Prop := ∀ d ∈ ds, d ≤ 9

theorem val_lt (ds : List Nat) (h : Digs ds) : val ds < 10 ^ ds.length := by
  induction ds with
  | nil => simp
  | cons d ds ih =>
    rw [val_cons, List.length_cons, Nat.pow_succ]
    have h1 := ih (fun x hx => h x (List.mem_cons_of_mem _ hx))
    have h2 : d ≤ 9 := h d (List.mem_cons_self ..)
    have h3 : d * 10 ^ ds.length ≤ 9 * 10 ^ ds.length := Nat.mul_le_mul_right _ h2
    omega

theorem val_ge (d : Nat) (ds : List Nat) (h : 1 ≤ d) : 10 ^ ds.length ≤ val (d :: ds) := by
  rw [val_cons]
  have : 1 * 10 ^ ds.length ≤ d * 10 ^ ds.length := Nat.mul_le_mul_right _ h
  omega

/-- what a number is of a sign, digits that end in no nought, and an exponent -/
def fin (neg : Bool) (m : Nat) (e : Int) : (Int × Int) × Int :=
  if 1000000000000000000 ≤ m ∨ e < -64 ∨ 64 < e then ((0, 0), 11) else ((if neg then -(m : Int) else m, e), 0)

def strip : Nat → Nat → Int → Nat × Int
  | 0, m, e => (m, e)
  | f + 1, m, e => if m % 10 = 0 then strip f (m / 10) (e + 1) else (m, e)

/-- the number of a sign, a whole size, and an exponent; or that there is none -/
def norm (neg : Bool) (m : Nat) (e : Int) : (Int × Int) × Int :=
  if m = 0 then ((0, 0), 0) else fin neg (strip m m e).1 (strip m m e).2

theorem strip_of (k : Nat) : ∀ (f m : Nat) (e : Int), m % 10 ≠ 0 → k ≤ f → strip f (m * 10 ^ k) e = (m, e + k) := by
  induction k with
  | zero =>
    intro f m e hm _
    cases f with
    | zero => simp [strip]
    | succ f => simp [strip, hm]
  | succ k ih =>
    intro f m e hm hf
    obtain ⟨f, rfl⟩ : ∃ g, f = g + 1 := ⟨f - 1, by omega⟩
    have h1 : m * 10 ^ (k + 1) = (m * 10 ^ k) * 10 := by rw [Nat.pow_succ, Nat.mul_assoc]
    rw [h1]
    simp only [strip, Nat.mul_mod_left, ↓reduceIte]
    rw [Nat.mul_div_cancel _ (by omega), ih f m (e + 1) hm (by omega)]
    congr 1
    omega

theorem lt_pow_ten (k : Nat) : k < 10 ^ k := by
  induction k with
  | zero => simp
  | succ k ih => rw [Nat.pow_succ]; omega

theorem norm_zero (neg : Bool) (e : Int) : norm neg 0 e = ((0, 0), 0) := rfl

theorem norm_of (neg : Bool) (m k : Nat) (e : Int) (hm : m % 10 ≠ 0) : norm neg (m * 10 ^ k) e = fin neg m (e + k) := by
  have h0 : m ≠ 0 := by intro h; subst h; simp at hm
  have hk := lt_pow_ten k
  have h1 : 1 * 10 ^ k ≤ m * 10 ^ k := Nat.mul_le_mul_right _ (by omega)
  unfold norm
  rw [if_neg (by omega), strip_of k _ m e hm (by omega)]

theorem norm_fin (neg : Bool) (m : Nat) (e : Int) (hm : m % 10 ≠ 0) : norm neg m e = fin neg m e := by
  have := norm_of neg m 0 e hm
  simpa using this

theorem exists_form (m : Nat) (_h : m ≠ 0) : ∃ a k, a % 10 ≠ 0 ∧ m = a * 10 ^ k := by
  induction m using Nat.strongRecOn with
  | _ m ih =>
    by_cases hm : m % 10 = 0
    · obtain ⟨a, k, ha, hk⟩ := ih (m / 10) (by omega) (by omega)
      refine ⟨a, k + 1, ha, ?_⟩
      rw [Nat.pow_succ, ← Nat.mul_assoc, ← hk]
      omega
    · exact ⟨m, 0, hm, by simp⟩

/-- noughts behind count as the exponent says -/
theorem norm_shift (neg : Bool) (m k : Nat) (e : Int) : norm neg (m * 10 ^ k) e = norm neg m (e + k) := by
  by_cases h : m = 0
  · subst h; simp [norm_zero]
  · obtain ⟨a, j, ha, rfl⟩ := exists_form m h
    rw [Nat.mul_assoc, ← Nat.pow_add, norm_of _ _ _ _ ha, norm_of _ _ _ _ ha]
    congr 1
    omega

theorem norm_step (neg : Bool) (m : Nat) (e : Int) : norm neg (m * 10) e = norm neg m (e + 1) := by
  have := norm_shift neg m 1 e
  simpa using this

/-- the digits of a number, the highest first; of 0 none -/
def digs (n : Nat) : List Nat := if _h : n = 0 then [] else digs (n / 10) ++ [n % 10]
termination_by n
decreasing_by omega

theorem digs_zero : digs 0 = [] := by rw [digs]; simp
theorem digs_pos (n : Nat) (h : n ≠ 0) : digs n = digs (n / 10) ++ [n % 10] := by rw [digs]; simp [h]

theorem val_digs (n : Nat) : val (digs n) = n := by
  induction n using Nat.strongRecOn with
  | _ n ih =>
    by_cases h : n = 0
    · subst h; simp [digs_zero]
    · rw [digs_pos n h, val_snoc, ih _ (by omega)]; omega

theorem digs_digs (n : Nat) : Digs (digs n) := by
  induction n using Nat.strongRecOn with
  | _ n ih =>
    by_cases h : n = 0
    · subst h; simp [digs_zero, Digs]
    · rw [digs_pos n h]
      intro d hd
      simp only [List.mem_append, List.mem_singleton] at hd
      rcases hd with hd | hd
      · exact ih _ (by omega) d hd
      · omega

theorem digs_head (n : Nat) : ∀ d ds, digs n = d :: ds → 1 ≤ d := by
  induction n using Nat.strongRecOn with
  | _ n ih =>
    intro d ds hd
    by_cases h : n = 0
    · subst h; simp [digs_zero] at hd
    · rw [digs_pos n h] at hd
      cases hx : digs (n / 10) with
      | nil =>
        rw [hx] at hd
        simp at hd
        have : n / 10 = 0 := by
          have := val_digs (n / 10); rw [hx] at this; simpa using this.symm
        omega
      | cons a b =>
        rw [hx] at hd
        simp at hd
        rw [← hd.1]
        exact ih _ (by omega) a b hx

theorem length_digs_le (n k : Nat) (h : n < 10 ^ k) : (digs n).length ≤ k := by
  cases hx : digs n with
  | nil => simp
  | cons a b =>
    have h1 := val_ge a b (digs_head n a b hx)
    rw [← hx, val_digs] at h1
    have : 10 ^ b.length < 10 ^ k := by omega
    have := (Nat.pow_lt_pow_iff_right (by omega : 1 < 10)).1 this
    simp; omega

/-- may a number be? -/
def right (m e : Int) : Bool := if m = 0 then e == 0 else decide (m.natAbs < 1000000000000000000) && decide (m.natAbs % 10 ≠ 0) && decide (-64 ≤ e) && decide (e ≤ 64)

theorem tmod_ten (m : Int) : m.tmod 10 = 0 ↔ m.natAbs % 10 = 0 := by
  rw [← Int.dvd_iff_tmod_eq_zero]; omega

theorem right_cases (m e : Int) (hm : m ≠ 0) :
    (decide ((m.natAbs : Int) < 1000000000000000000) = false ∧ right m e = false) ∨
    (decide ((m.natAbs : Int) < 1000000000000000000) = true ∧ (m.tmod 10 != 0) = false ∧ right m e = false) ∨
    (decide ((m.natAbs : Int) < 1000000000000000000) = true ∧ (m.tmod 10 != 0) = true ∧ decide (-64 ≤ e) = false ∧ right m e = false) ∨
    (decide ((m.natAbs : Int) < 1000000000000000000) = true ∧ (m.tmod 10 != 0) = true ∧ decide (-64 ≤ e) = true ∧ right m e = decide (e ≤ 64)) := by
  have h1 : right m e = (decide (m.natAbs < 1000000000000000000) && decide (m.natAbs % 10 ≠ 0) && decide (-64 ≤ e) && decide (e ≤ 64)) := by unfold right; rw [if_neg hm]
  have h2 : decide ((m.natAbs : Int) < 1000000000000000000) = decide (m.natAbs < 1000000000000000000) := by rw [decide_eq_decide]; omega
  have h3 : (m.tmod 10 != 0) = decide (m.natAbs % 10 ≠ 0) := by
    rw [Bool.eq_iff_iff]; simp only [bne_iff_ne, ne_eq, decide_eq_true_eq, tmod_ten]
  rw [h1, h2, h3]
  cases decide (m.natAbs < 1000000000000000000) <;> cases decide (m.natAbs % 10 ≠ 0) <;> cases decide (-64 ≤ e) <;> simp

def dq10 (h l : Int) : Int := (h * 18446744073709551616 + l) / 10
def dm10 (h l : Int) : Int := (h * 18446744073709551616 + l) % 10
def wide (h l : Int) : Nat := (h * 18446744073709551616 + l).toNat

theorem wide_div (h l : Int) (_h0 : 0 ≤ h) (_l0 : 0 ≤ l) : wide (h / 10) (dq10 (h % 10) l) = wide h l / 10 := by unfold wide dq10; omega
theorem wide_mod (h l : Int) (h0 : 0 ≤ h) (l0 : 0 ≤ l) : dm10 (h % 10) l = (wide h l % 10 : Nat) := by unfold wide dm10; omega
theorem dq10_bd (h l : Int) (_h0 : 0 ≤ h) (l0 : 0 ≤ l) (l1 : l < 18446744073709551616) : 0 ≤ dq10 (h % 10) l ∧ dq10 (h % 10) l < 18446744073709551616 := by unfold dq10; omega
theorem wide_lt (h l : Int) (h1 : h < 18446744073709551616) (l1 : l < 18446744073709551616) : wide h l < 340282366920938463463374607431768211456 := by unfold wide; omega
theorem pow_small (k n V : Nat) (hn : n ≠ 0) (e : n * 10 ^ k = V) (hV : V < 340282366920938463463374607431768211456) : k < 39 := by
  rcases Nat.lt_or_ge k 39 with h | h
  · exact h
  · have h1 : 10 ^ 39 ≤ 10 ^ k := Nat.pow_le_pow_right (by omega) h
    have h2 : 1 * 10 ^ k ≤ n * 10 ^ k := Nat.mul_le_mul_right _ (by omega)
    have h3 : (10 : Nat) ^ 39 = 1000000000000000000000000000000000000000 := by decide
    omega

theorem made_cases (neg : Bool) (x y f : Int) (x0 : 0 ≤ x) (y0 : 0 ≤ y) (hr : wide x y % 10 ≠ 0) :
    ((x != 0) = true ∧ norm neg (wide x y) f = ((0, 0), 11)) ∨
    ((x != 0) = false ∧ decide (1000000000000000000 ≤ y) = true ∧ norm neg (wide x y) f = ((0, 0), 11)) ∨
    ((x != 0) = false ∧ decide (1000000000000000000 ≤ y) = false ∧ decide (f < -64) = true ∧ norm neg (wide x y) f = ((0, 0), 11)) ∨
    ((x != 0) = false ∧ decide (1000000000000000000 ≤ y) = false ∧ decide (f < -64) = false ∧ decide (64 < f) = true ∧ norm neg (wide x y) f = ((0, 0), 11)) ∨
    ((x != 0) = false ∧ decide (1000000000000000000 ≤ y) = false ∧ decide (f < -64) = false ∧ decide (64 < f) = false ∧ y < 1000000000000000000 ∧ norm neg (wide x y) f = ((if neg then -y else y, f), 0)) := by
  rw [norm_fin _ _ _ hr]
  unfold fin wide
  by_cases hx : x = 0
  · subst hx
    have e : (0 * 18446744073709551616 + y).toNat = y.toNat := by congr 1; omega
    rw [e]
    right
    by_cases hy : 1000000000000000000 ≤ y
    · left; exact ⟨rfl, by simpa using hy, by rw [if_pos (by omega)]⟩
    · right
      have hy' : decide (1000000000000000000 ≤ y) = false := by simpa using hy
      by_cases h1 : f < -64
      · left; exact ⟨rfl, hy', by simpa using h1, by rw [if_pos (by omega)]⟩
      · right
        by_cases h2 : 64 < f
        · left; exact ⟨rfl, hy', by simpa using h1, by simpa using h2, by rw [if_pos (by omega)]⟩
        · right; exact ⟨rfl, hy', by simpa using h1, by simpa using h2, by omega, by rw [if_neg (by omega), Int.toNat_of_nonneg y0]⟩
  · left
    exact ⟨by simpa using hx, by rw [if_pos (by omega)]⟩

end Th
