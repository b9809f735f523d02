/- Plain law of NumUndoes: sums and products are taken back. No conditions. -/
import Derived.Test.YtljemfajjeoecaaDoorDivN
import Derived.Test.YtljemfajjeoecaaDoorMul
namespace Go.Proofs.YtljemfajjeoecaaDoor
open Go Go.RowKit Go.Proofs Th

theorem mulN_comm (m1 e1 m2 e2 : Int) : mulN m1 e1 m2 e2 = mulN m2 e2 m1 e1 := by
  unfold mulN; rw [Bool.and_comm, Int.mul_comm, Int.add_comm]

/-- what a number that there is is worth -/
theorem normZ_ok {S e m f : Int} (h : normZ S e = ((m, f), 0)) : right m f = true ∧ ((S = 0 ∧ m = 0 ∧ f = 0) ∨ (m ≠ 0 ∧ ∃ k : Nat, S = m * (10 ^ k : Nat) ∧ f = e + k)) := by
  unfold normZ at h
  by_cases hS : S = 0
  · subst hS
    have h2 : (((0 : Int), (0 : Int)), (0 : Int)) = ((m, f), 0) := h
    simp only [Prod.mk.injEq] at h2
    obtain ⟨⟨rfl, rfl⟩, _⟩ := h2
    exact ⟨by decide, .inl ⟨rfl, rfl, rfl⟩⟩
  · obtain ⟨a, k, ha, hk⟩ := exists_form S.natAbs (by omega)
    rw [hk, norm_of _ _ _ _ ha] at h
    unfold fin at h
    split at h
    · simp at h
    · rename_i hn
      simp only [Prod.mk.injEq] at h
      obtain ⟨⟨h1, h2⟩, _⟩ := h
      have hma : m.natAbs = a := by rw [← h1]; split <;> omega
      have hm0 : m ≠ 0 := by intro h0; subst h0; simp at hma; omega
      refine ⟨?_, .inr ⟨hm0, k, ?_, h2.symm⟩⟩
      · unfold right
        rw [if_neg hm0, hma]
        simp only [Bool.and_eq_true, decide_eq_true_eq]
        omega
      · rw [← h1]
        by_cases hneg : S < 0
        · simp only [hneg, decide_true, ↓reduceIte]
          rw [Int.neg_mul, ← Int.natCast_mul, ← hk]; omega
        · simp only [hneg, decide_false, Bool.false_eq_true, ↓reduceIte]
          rw [← Int.natCast_mul, ← hk]; omega

theorem addN_rights {m1 e1 m2 e2 : Int} {p : Int × Int} (h : addN m1 e1 m2 e2 = (p, 0)) : right m1 e1 = true ∧ right m2 e2 = true := by
  unfold addN at h
  split at h
  · rename_i hh; simpa using hh
  · simp at h
theorem mulN_rights {m1 e1 m2 e2 : Int} {p : Int × Int} (h : mulN m1 e1 m2 e2 = (p, 0)) : right m1 e1 = true ∧ right m2 e2 = true := by
  unfold mulN at h
  split at h
  · rename_i hh; simpa using hh
  · simp at h
theorem right_neg {m e : Int} (h : right m e = true) : right (-m) e = true := by
  unfold right at *
  by_cases h0 : m = 0
  · subst h0; exact h
  · rw [if_neg h0] at h; rw [if_neg (by omega), Int.natAbs_neg]; exact h
theorem pow_int_add (a b : Nat) : ((10 ^ (a + b) : Nat) : Int) = ((10 ^ a : Nat) : Int) * ((10 ^ b : Nat) : Int) := by rw [Nat.pow_add, Int.natCast_mul]
/-- a number, at an exponent below its own -/
theorem normZ_low {m e l : Int} (h : l ≤ e) : normZ (m * (10 ^ (e - l).toNat : Nat)) l = normZ m e := by
  rw [normZ_shift]; congr 1; omega
theorem low_le1 (a b : Int) : low a b ≤ a := by unfold low; split <;> omega
theorem low_le2 (a b : Int) : low a b ≤ b := by unfold low; split <;> omega
/-- a sum, at an exponent further below -/
theorem sumZ_low {m1 e1 m2 e2 l l' : Int} (h : l ≤ l') (h1 : l' ≤ e1) (h2 : l' ≤ e2) : sumZ m1 e1 m2 e2 l = sumZ m1 e1 m2 e2 l' * (10 ^ (l' - l).toNat : Nat) := by
  unfold sumZ
  rw [show (e1 - l).toNat = (e1 - l').toNat + (l' - l).toNat by omega, show (e2 - l).toNat = (e2 - l').toNat + (l' - l).toNat by omega, pow_int_add, pow_int_add, Int.add_mul, Int.mul_assoc, Int.mul_assoc]
theorem normZ_sum {m1 e1 m2 e2 l l' : Int} (h : l ≤ l') (h1 : l' ≤ e1) (h2 : l' ≤ e2) : normZ (sumZ m1 e1 m2 e2 l') l' = normZ (sumZ m1 e1 m2 e2 l) l := by
  rw [sumZ_low h h1 h2, normZ_shift]; congr 1; omega

theorem sub_undoes {m1 e1 m2 e2 m f : Int} (h : addN m1 e1 m2 e2 = ((m, f), 0)) : subN m f m2 e2 = ((m1, e1), 0) := by
  obtain ⟨r1, r2⟩ := addN_rights h
  unfold addN at h
  rw [r1, r2] at h
  simp only [Bool.and_self, ↓reduceIte] at h
  have hl1 := low_le1 e1 e2
  have hl2 := low_le2 e1 e2
  generalize low e1 e2 = l at *
  obtain ⟨r, hS⟩ := normZ_ok h
  unfold subN
  rw [if_pos r2]
  rcases hS with ⟨hS, rfl, rfl⟩ | ⟨hm, k, hS, hf⟩
  · rw [addN_zero_left r (right_neg r2), ← normZ_right (right_neg r2), ← normZ_right r1, ← normZ_low hl1, ← normZ_low hl2]
    congr 1
    unfold sumZ at hS
    rw [Int.neg_mul]; omega
  · unfold addN
    rw [r, right_neg r2]
    simp only [Bool.and_self, ↓reduceIte]
    have hg1 := low_le1 f e2
    have hg2 := low_le2 f e2
    have hl3 : l ≤ low f e2 := by unfold low; split <;> omega
    generalize low f e2 = l' at *
    rw [normZ_sum hl3 hg1 hg2, ← normZ_right r1, ← normZ_low hl1]
    congr 1
    have : sumZ m f (-m2) e2 l = m * (10 ^ k : Nat) - m2 * (10 ^ (e2 - l).toNat : Nat) := by
      unfold sumZ; rw [show (f - l).toNat = k by omega, Int.neg_mul]; omega
    rw [this, ← hS]
    unfold sumZ; omega

theorem div_undoes {m1 e1 m2 e2 m f : Int} (h : mulN m1 e1 m2 e2 = ((m, f), 0)) (h0 : m2 ≠ 0) : divN m f m2 e2 = ((m1, e1), 0) := by
  obtain ⟨r1, r2⟩ := mulN_rights h
  unfold mulN at h
  rw [r1, r2] at h
  simp only [Bool.and_self, ↓reduceIte] at h
  obtain ⟨r, hS⟩ := normZ_ok h
  have hw : wrongS m f m2 e2 = 0 := by unfold wrongS; rw [r, r2]; simp [h0]
  unfold divN
  rw [if_neg (by simpa using hw)]
  rcases hS with ⟨hS, rfl, rfl⟩ | ⟨hm, k, hS, hf⟩
  · have hm1 : m1 = 0 := by
      rcases Int.mul_eq_zero.1 hS with h | h
      · exact h
      · exact absurd h h0
    subst hm1
    have he1 : e1 = 0 := by simpa [right] using r1
    subst he1
    exact divR_zero _ _ _
  · have hn : m.natAbs * 10 ^ k = m1.natAbs * m2.natAbs := by
      have := congrArg Int.natAbs hS
      rw [Int.natAbs_mul, Int.natAbs_mul] at this
      exact this.symm
    have hb1 := right_size r1
    have hb2 := right_size r2
    have hm1 : m1 ≠ 0 := by
      rintro rfl
      rw [Int.zero_mul] at hS
      rcases Int.mul_eq_zero.1 hS.symm with h | h
      · exact hm h
      · have := Nat.pow_pos (n := k) (show 0 < 10 by omega); omega
    have hk : k < 39 := pow_small k m.natAbs _ (by omega) hn (by
      have := Nat.mul_le_mul (Nat.le_of_lt hb1) (Nat.le_of_lt hb2); omega)
    have h100 : m.natAbs * 10 ^ 100 = m2.natAbs * (m1.natAbs * 10 ^ (100 - k)) := by
      rw [show (10 : Nat) ^ 100 = 10 ^ k * 10 ^ (100 - k) by rw [← Nat.pow_add]; congr 1; omega, ← Nat.mul_assoc, hn, ← Nat.mul_assoc, Nat.mul_comm m2.natAbs]
    unfold divR
    rw [if_pos ⟨_, h100⟩, h100, Nat.mul_div_cancel_left _ (by omega), norm_shift, ← normZ_right r1]
    have hs : (decide (m < 0) != decide (m2 < 0)) = decide (m1 < 0) := by
      have hp : (0 : Int) < ((10 ^ k : Nat) : Int) := by have := Nat.pow_pos (n := k) (show 0 < 10 by omega); omega
      by_cases c1 : m1 < 0 <;> by_cases c2 : m2 < 0 <;> by_cases c : m < 0
      all_goals simp only [c1, c2, c, decide_true, decide_false, bne_self_eq_false, Bool.bne_true, Bool.bne_false, Bool.not_false]
      all_goals exfalso
      all_goals first
        | (have a1 := Int.mul_neg_of_neg_of_pos c hp)
        | (have a1 := Int.mul_nonneg (show 0 ≤ m by omega) (Int.le_of_lt hp); have a3 := Int.mul_pos (show 0 < m by omega) hp)
      all_goals first
        | (have a2 := Int.mul_pos_of_neg_of_neg c1 c2; omega)
        | (have a2 := Int.mul_neg_of_neg_of_pos c1 (show 0 < m2 by omega); omega)
        | (have a2 := Int.mul_neg_of_pos_of_neg (show 0 < m1 by omega) c2; omega)
        | (have a2 := Int.mul_pos (show 0 < m1 by omega) (show 0 < m2 by omega); omega)
    rw [hs]
    unfold normZ
    congr 1; omega
end Go.Proofs.YtljemfajjeoecaaDoor
