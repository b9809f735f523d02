/- Plain arithmetic for the reference's Parse: its exponents, cut off elsewhere, give the same numbers. No conditions. -/
import Derived.Test.YtljemfajjeoecaaDoorRefA
import Derived.Test.YtljemfajjeoecaaDoorRefMath
namespace Go.Proofs.YtljemfajjeoecaaDoor
open Go Go.RowKit Go.Proofs Th

theorem norm_high (neg : Bool) (m : Nat) (e : Int) (h : 64 < e) : norm neg m e = if m = 0 then ((0, 0), 0) else ((0, 0), 11) := by
  by_cases hm : m = 0
  · rw [if_pos hm, hm]; rfl
  · rw [if_neg hm]
    obtain ⟨a, k, ha, hk⟩ := exists_form m hm
    rw [hk, norm_of _ _ _ _ ha]
    unfold fin
    rw [if_pos (by omega)]
theorem norm_low (neg : Bool) (m n : Nat) (e : Int) (hlt : m < 10 ^ n) (h : e + n < -64) : norm neg m e = if m = 0 then ((0, 0), 0) else ((0, 0), 11) := by
  by_cases hm : m = 0
  · rw [if_pos hm, hm]; rfl
  · rw [if_neg hm]
    obtain ⟨a, k, ha, hk⟩ := exists_form m hm
    have h1 : 1 * 10 ^ k ≤ a * 10 ^ k := Nat.mul_le_mul_right _ (by omega)
    have h2 : 10 ^ k < 10 ^ n := by omega
    have h3 := (Nat.pow_lt_pow_iff_right (by omega : 1 < 10)).1 h2
    rw [hk, norm_of _ _ _ _ ha]
    unfold fin
    rw [if_pos (by omega)]

theorem powN_clamp (r : List UInt8) (h : AllDig r.reverse) : (powN r.reverse = clampN r.reverse ∧ powN r.reverse < 1000000) ∨ (1000000 ≤ powN r.reverse ∧ 1000000 ≤ clampN r.reverse) := by
  induction r with
  | nil => left; exact ⟨rfl, by decide⟩
  | cons c r ih =>
    rw [List.reverse_cons] at h ⊢
    have hr : AllDig r.reverse := fun d hd => h d (by simp at hd ⊢; left; exact hd)
    have hc := h c (by simp)
    rw [powN_snoc, clampN_snoc]
    have hb : digB c = true := by unfold digB; simp; exact hc
    have hle := clampN_le r.reverse
    have hd : dg c ≤ 9 := by unfold dg; omega
    unfold powS
    rw [hb]
    rcases ih hr with ⟨h1, h2⟩ | ⟨h1, h2⟩
    · rw [if_pos (by simpa using h2)]
      omega
    · rw [if_neg (by simp; omega)]
      omega
theorem powN_cl (l : List UInt8) (h : AllDig l) : (powN l = clampN l ∧ powN l < 1000000) ∨ (1000000 ≤ powN l ∧ 1000000 ≤ clampN l) := by
  have := powN_clamp l.reverse (by rwa [List.reverse_reverse])
  rwa [List.reverse_reverse] at this
theorem powN_skip (c : UInt8) (l : List UInt8) (h : digB c = false) : powN (c :: l) = powN l := by
  show l.foldl powS (powS 0 c) = l.foldl powS 0
  unfold powS
  rw [h]
  rfl
theorem negB_dig (l : List UInt8) (h : AllDig l) : negB l = false := by
  unfold negB
  rw [List.any_eq_false]
  intro c hc
  have := h c hc
  simp
  rintro rfl
  exact absurd this.1 (by decide)
theorem chkE_dig {neg en : Bool} {u x : List UInt8} (h : chkE neg u = some (en, x)) : en = neg ∧ x = u ∧ AllDig u := by
  unfold chkE at h
  split at h
  · cases h
  · rename_i h2
    injection h with h
    injection h with h3 h4
    refine ⟨h3.symm, h4.symm, ?_⟩
    have := nDig_le u
    have h5 := allDig_take u
    rwa [List.take_of_length_le (by omega)] at h5

/-- the two exponents are the same, or both far away on one side -/
def Alike (a b : Int) : Prop := a = b ∨ (1000000 ≤ a ∧ 1000000 ≤ b) ∨ (a ≤ -1000000 ∧ b ≤ -1000000)
theorem alike_of (neg : Bool) (l : List UInt8) (h : AllDig l) : Alike (if neg then -(powN l : Int) else powN l) (sg neg (clampN l)) := by
  unfold Alike sg
  rcases powN_cl l h with ⟨h1, h2⟩ | ⟨h1, h2⟩
  · left; rw [h1]
  · right; cases neg
    · left; simp; omega
    · right; simp; omega
theorem powR_alike (r x : List UInt8) (en : Bool) (h : expoP r = some (en, x)) : Alike (powR r) (sg en (clampN x)) := by
  unfold expoP at h
  split at h
  · rename_i h0
    subst h0
    injection h with h; injection h with h1 h2
    subst h1 h2
    left; rfl
  · split at h
    · rename_i h0 h1
      obtain ⟨c, t, rfl⟩ : ∃ c t, r = c :: t := by cases r with | nil => exact absurd rfl h0 | cons c t => exact ⟨c, t, rfl⟩
      have hc : c = 101 ∨ c = 69 := by simpa using h1
      have hdc : digB c = false := by rcases hc with rfl | rfl <;> decide
      have hnc : (c == 45) = false := by rcases hc with rfl | rfl <;> decide
      have hp : powR (c :: t) = powR t := by
        unfold powR
        rw [powN_skip c t hdc]
        unfold negB
        rw [List.any_cons, hnc, Bool.false_or]
      rw [hp]
      simp only [List.drop_succ_cons, List.drop_zero] at h
      split at h
      · rename_i h2
        obtain ⟨u, rfl⟩ : ∃ u, t = 45 :: u := by
          cases t with
          | nil => simp at h2
          | cons a u => simp at h2; subst h2; exact ⟨u, rfl⟩
        obtain ⟨rfl, rfl, hd⟩ := chkE_dig h
        have := alike_of true _ hd
        unfold powR
        rw [powN_skip 45 _ (by decide)]
        simpa [negB] using this
      · split at h
        · rename_i h2 h3
          obtain ⟨u, rfl⟩ : ∃ u, t = 43 :: u := by
            cases t with
            | nil => simp at h3
            | cons a u => simp at h3; subst h3; exact ⟨u, rfl⟩
          obtain ⟨rfl, hx, hd⟩ := chkE_dig (u := u) h
          subst hx
          have := alike_of false x hd
          have hn := negB_dig x hd
          unfold powR
          rw [powN_skip 43 x (by decide), show negB (43 :: x) = false by unfold negB at *; rw [List.any_cons, hn]; rfl]
          simpa using this
        · obtain ⟨rfl, rfl, hd⟩ := chkE_dig h
          have := alike_of false _ hd
          unfold powR
          rw [negB_dig _ hd]
          simpa using this
    · cases h
/-- both exponents give one number -/
theorem norm_alike (neg : Bool) (m n : Nat) (a b f : Int) (hm : m < 10 ^ n) (hn : n ≤ 100000) (hf : 0 ≤ f ∧ f ≤ 100000) (h : Alike a b) : norm neg m (a - f) = norm neg m (b - f) := by
  rcases h with rfl | ⟨h1, h2⟩ | ⟨h1, h2⟩
  · rfl
  · rw [norm_high _ _ _ (by omega), norm_high _ _ _ (by omega)]
  · rw [norm_low _ _ n _ hm (by omega), norm_low _ _ n _ hm (by omega)]
end Go.Proofs.YtljemfajjeoecaaDoor
