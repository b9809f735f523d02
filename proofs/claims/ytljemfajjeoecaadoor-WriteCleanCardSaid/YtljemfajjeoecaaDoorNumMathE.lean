/- Plain arithmetic of the quotient that has an end. No conditions: it imports no program. -/
import Derived.Test.YtljemfajjeoecaaDoorNumMathD
namespace Th

/-- the quotient of two sizes, times ten to the e, or that it has no end -/
def divR (a b : Nat) (neg : Bool) (e : Int) : (Int × Int) × Int :=
  if b ∣ a * 10 ^ 100 then norm neg (a * 10 ^ 100 / b) (e - 100) else ((0, 0), 11)

/-- what holds in each round -/
structure DivInv (n0 d0 n d k : Nat) : Prop where
  eq : n * d0 = n0 * 10 ^ k * d
  cop : Nat.Coprime n d
  pos : 0 < d
  dec : d * 2 ^ k ≤ d0

theorem DivInv.start {n d : Nat} (h : Nat.Coprime n d) (hd : 0 < d) : DivInv n d n d 0 := ⟨by simp, h, hd, by simp⟩
theorem DivInv.ten {n0 d0 n d k : Nat} (h : DivInv n0 d0 n d k) (hd : d % 10 = 0) : DivInv n0 d0 n (d / 10) (k + 1) := by
  obtain ⟨c, rfl⟩ : ∃ c, d = 10 * c := ⟨d / 10, by omega⟩
  have hp := h.pos
  have e1 : 10 * c / 10 = c := by omega
  rw [e1]
  refine ⟨?_, h.cop.coprime_dvd_right ⟨10, by omega⟩, by omega, ?_⟩
  · rw [h.eq, Nat.pow_succ, Nat.mul_assoc, Nat.mul_assoc, Nat.mul_assoc]
  · have := h.dec; rw [Nat.pow_succ]
    have : c * (2 ^ k * 2) = 2 * (c * 2 ^ k) := by rw [← Nat.mul_assoc]; omega
    have : 10 * c * 2 ^ k = 10 * (c * 2 ^ k) := Nat.mul_assoc _ _ _
    omega
theorem coprime_of_dvd {n d p : Nat} (h : Nat.Coprime n d) (hp : 1 < p) (hd : p ∣ d) : ¬ p ∣ n := by
  intro hn
  have := Nat.dvd_gcd hn hd
  rw [h] at this
  have := Nat.le_of_dvd (by omega) this
  omega
theorem cop2 {c : Nat} (h : c % 2 ≠ 0) : Nat.Coprime 2 c := by
  unfold Nat.Coprime
  rw [Nat.gcd_rec, show c % 2 = 1 by omega]; decide
theorem cop5 {c : Nat} (h : c % 5 ≠ 0) : Nat.Coprime 5 c := by
  unfold Nat.Coprime
  have : c % 5 < 5 := by omega
  rw [Nat.gcd_rec]
  generalize c % 5 = r at *
  have : r = 1 ∨ r = 2 ∨ r = 3 ∨ r = 4 := by omega
  rcases this with rfl | rfl | rfl | rfl <;> decide
theorem DivInv.five {n0 d0 n d k : Nat} (h : DivInv n0 d0 n d k) (h10 : d % 10 ≠ 0) (hd : d % 5 = 0) : DivInv n0 d0 (n * 2) (d / 5) (k + 1) ∧ (n * 2) % 10 ≠ 0 := by
  obtain ⟨c, rfl⟩ : ∃ c, d = 5 * c := ⟨d / 5, by omega⟩
  have hp := h.pos
  have e1 : 5 * c / 5 = c := by omega
  have hn := coprime_of_dvd h.cop (p := 5) (by omega) ⟨c, rfl⟩
  rw [e1]
  refine ⟨⟨?_, ?_, by omega, ?_⟩, by omega⟩
  · rw [Nat.mul_right_comm, h.eq, Nat.pow_succ, show (10 : Nat) = 5 * 2 by rfl]
    simp only [Nat.mul_assoc, Nat.mul_left_comm, Nat.mul_comm]
  · exact Nat.Coprime.mul_left (h.cop.coprime_dvd_right ⟨5, by omega⟩) (cop2 (by omega))
  · have := h.dec; rw [Nat.pow_succ]
    have : c * (2 ^ k * 2) = 2 * (c * 2 ^ k) := by rw [← Nat.mul_assoc]; omega
    have : 5 * c * 2 ^ k = 5 * (c * 2 ^ k) := Nat.mul_assoc _ _ _
    omega
theorem DivInv.two {n0 d0 n d k : Nat} (h : DivInv n0 d0 n d k) (h5 : d % 5 ≠ 0) (hd : d % 2 = 0) : DivInv n0 d0 (n * 5) (d / 2) (k + 1) ∧ (n * 5) % 10 ≠ 0 := by
  obtain ⟨c, rfl⟩ : ∃ c, d = 2 * c := ⟨d / 2, by omega⟩
  have hp := h.pos
  have e1 : 2 * c / 2 = c := by omega
  have hn := coprime_of_dvd h.cop (p := 2) (by omega) ⟨c, rfl⟩
  rw [e1]
  refine ⟨⟨?_, ?_, by omega, ?_⟩, by omega⟩
  · rw [Nat.mul_right_comm, h.eq, Nat.pow_succ, show (10 : Nat) = 2 * 5 by rfl]
    simp only [Nat.mul_assoc, Nat.mul_left_comm, Nat.mul_comm]
  · exact Nat.Coprime.mul_left (h.cop.coprime_dvd_right ⟨2, by omega⟩) (cop5 (by omega))
  · have := h.dec; rw [Nat.pow_succ]
    have : c * (2 ^ k * 2) = 2 * (c * 2 ^ k) := by rw [← Nat.mul_assoc]; omega
    have : 2 * c * 2 ^ k = 2 * (c * 2 ^ k) := Nat.mul_assoc _ _ _
    omega

theorem k_small {n0 d0 n d k : Nat} (h : DivInv n0 d0 n d k) (hd : d0 < 2 ^ 64) : k < 64 := by
  have h1 := h.dec
  have h2 := h.pos
  have : 2 ^ k ≤ d * 2 ^ k := Nat.le_mul_of_pos_left _ h2
  exact (Nat.pow_lt_pow_iff_right (a := 2) (by omega)).1 (by omega)

theorem divR_end {n0 d0 n d k : Nat} (h : DivInv n0 d0 n d k) (h1 : d ≤ 1) (hd : d0 < 2 ^ 64) (neg : Bool) (e : Int) : divR n0 d0 neg e = norm neg n (e - k) := by
  have hk := k_small h hd
  have hp := h.pos
  have hd0 : 0 < d0 := by
    have := h.dec
    have : 0 < d * 2 ^ k := Nat.mul_pos hp (Nat.pow_pos (by omega))
    omega
  have he := h.eq
  rw [show d = 1 by omega, Nat.mul_one] at he
  have h10 : n0 * 10 ^ 100 = d0 * (n * 10 ^ (100 - k)) := by
    rw [show (10 : Nat) ^ 100 = 10 ^ k * 10 ^ (100 - k) by rw [← Nat.pow_add]; congr 1; omega, ← Nat.mul_assoc, ← he, Nat.mul_comm n d0, Nat.mul_assoc]
  unfold divR
  rw [if_pos ⟨_, h10⟩, h10, Nat.mul_div_cancel_left _ hd0, norm_shift]
  congr 1; omega

theorem divR_none {n0 d0 n d k : Nat} (h : DivInv n0 d0 n d k) (hc : Nat.Coprime n0 d0) (h1 : 1 < d) (h2 : d % 2 ≠ 0) (h5 : d % 5 ≠ 0) (neg : Bool) (e : Int) : divR n0 d0 neg e = ((0, 0), 11) := by
  unfold divR
  rw [if_neg]
  intro hd
  have g1 : d0 ∣ 10 ^ 100 := Nat.Coprime.dvd_of_dvd_mul_left hc.symm hd
  have g2 : d ∣ d0 := Nat.Coprime.dvd_of_dvd_mul_left h.cop.symm ⟨n0 * 10 ^ k, by rw [h.eq, Nat.mul_comm]⟩
  have g3 : Nat.Coprime d 10 := by
    have := Nat.Coprime.mul_left (cop2 h2) (cop5 h5)
    exact this.symm
  have g4 : Nat.Coprime d (10 ^ 100) := Nat.Coprime.pow_right _ g3
  have := Nat.Coprime.eq_one_of_dvd g4 (Nat.dvd_trans g2 g1)
  omega

theorem divR_over {n0 d0 n d k : Nat} (h : DivInv n0 d0 n d k) (hn0 : 0 < n0) (hbig : 18446744073709551616 ≤ n) (h10 : n % 10 ≠ 0) (neg : Bool) (e : Int) : divR n0 d0 neg e = ((0, 0), 11) := by
  unfold divR
  split
  case isFalse => rfl
  case isTrue hd =>
    obtain ⟨q, hq⟩ := hd
    have hp := h.pos
    have hd0 : 0 < d0 := by
      have := h.dec
      have : 0 < d * 2 ^ k := Nat.mul_pos hp (Nat.pow_pos (by omega))
      omega
    rw [hq, Nat.mul_div_cancel_left _ hd0]
    have hq0 : q ≠ 0 := by
      rintro rfl
      have : 0 < n0 * 10 ^ 100 := Nat.mul_pos hn0 (Nat.pow_pos (by omega))
      omega
    obtain ⟨a, t, ha, rfl⟩ := exists_form q hq0
    have h1 : a * (10 ^ (t + k) * d) = n * 10 ^ 100 := by
      refine Nat.eq_of_mul_eq_mul_left hn0 ?_
      have g1 : n0 * (n * 10 ^ 100) = n * (d0 * (a * 10 ^ t)) := by rw [← hq]; exact Nat.mul_left_comm _ _ _
      have g2 : n * (d0 * (a * 10 ^ t)) = n0 * 10 ^ k * d * (a * 10 ^ t) := by rw [← Nat.mul_assoc, h.eq]
      rw [g1, g2, Nat.pow_add]
      generalize (10 : Nat) ^ t = x
      generalize (10 : Nat) ^ k = y
      simp only [Nat.mul_left_comm, Nat.mul_comm]
    have hge : n ≤ a := by
      by_cases hlt : t + k ≤ 100
      · have h2 : a * d = n * 10 ^ (100 - (t + k)) := by
          refine Nat.eq_of_mul_eq_mul_left (n := 10 ^ (t + k)) (Nat.pow_pos (by omega)) ?_
          have e1 : (10 : Nat) ^ 100 = 10 ^ (t + k) * 10 ^ (100 - (t + k)) := by rw [← Nat.pow_add]; congr 1; omega
          rw [e1] at h1
          rw [Nat.mul_left_comm, h1, Nat.mul_left_comm]
        have h3 : d ∣ 10 ^ (100 - (t + k)) := Nat.Coprime.dvd_of_dvd_mul_left h.cop.symm ⟨a, by rw [← h2, Nat.mul_comm]⟩
        obtain ⟨c, hc⟩ := h3
        have hc0 : 0 < c := by
          rcases Nat.eq_zero_or_pos c with rfl | h
          · have : 0 < 10 ^ (100 - (t + k)) := Nat.pow_pos (by omega)
            omega
          · exact h
        rw [hc, Nat.mul_left_comm, Nat.mul_comm a d] at h2
        have h4 := Nat.eq_of_mul_eq_mul_left hp h2
        rw [h4]
        exact Nat.le_mul_of_pos_right _ hc0
      · exfalso
        have e1 : (10 : Nat) ^ (t + k) = 10 ^ 100 * (10 ^ (t + k - 101) * 10) := by
          rw [← Nat.pow_succ, ← Nat.pow_add]; congr 1; omega
        have h2 : a * (10 ^ (t + k - 101) * 10 * d) = n := by
          refine Nat.eq_of_mul_eq_mul_left (n := 10 ^ 100) (Nat.pow_pos (by omega)) ?_
          rw [e1] at h1
          rw [Nat.mul_comm (10 ^ 100) n, ← h1, Nat.mul_left_comm, ← Nat.mul_assoc]
          simp only [Nat.mul_assoc, Nat.mul_left_comm]
        apply h10
        rw [← h2, show a * (10 ^ (t + k - 101) * 10 * d) = 10 * (a * (10 ^ (t + k - 101) * d)) by simp only [Nat.mul_left_comm, Nat.mul_comm]]
        omega
    rw [norm_of _ _ _ _ ha]
    unfold fin
    rw [if_pos (.inl (by omega))]

theorem divR_reduce (a b : Nat) (hb : 0 < b) (neg : Bool) (e : Int) : divR a b neg e = divR (a / Nat.gcd a b) (b / Nat.gcd a b) neg e := by
  have hg : 0 < Nat.gcd a b := Nat.gcd_pos_of_pos_right _ hb
  obtain ⟨x, hx⟩ := Nat.gcd_dvd_left a b
  obtain ⟨y, hy⟩ := Nat.gcd_dvd_right a b
  generalize Nat.gcd a b = g at *
  subst hx hy
  rw [Nat.mul_div_cancel_left _ hg, Nat.mul_div_cancel_left _ hg]
  unfold divR
  rw [Nat.mul_assoc, Nat.mul_div_mul_left _ _ hg]
  simp only [Nat.mul_dvd_mul_iff_left hg]
theorem reduce_coprime (a b : Nat) (hb : 0 < b) : Nat.Coprime (a / Nat.gcd a b) (b / Nat.gcd a b) := Nat.coprime_div_gcd_div_gcd (Nat.gcd_pos_of_pos_right _ hb)
theorem divR_zero (b : Nat) (neg : Bool) (e : Int) : divR 0 b neg e = ((0, 0), 0) := by
  unfold divR; rw [if_pos (by simp)]; simp [norm_zero]
end Th
