/- Plain law of NumUndoes: sums and products are taken back. No conditions.
Plain law of NumOrders: numbers are ordered as their worths. No conditions.
Plain law of NumBack: what is printed is parsed. No conditions. -/
import Derived.Test.YtljemfajjeoecaaDoorDivN
import Derived.Test.YtljemfajjeoecaaDoorMul
import Derived.Test.YtljemfajjeoecaaDoorCmp
import Derived.Test.YtljemfajjeoecaaDoorPrint
import Derived.Test.YtljemfajjeoecaaDoorParse
import Derived.Lib.ItoaNum
import Derived.Lib.Bytealg
namespace Go.Proofs.YtljemfajjeoecaaDoor
open Go Go.RowKit Go.Proofs Th

theorem mulN_comm (m1 e1 m2 e2 : Int) : mulN m1 e1 m2 e2 = mulN m2 e2 m1 e1 := by
  unfold mulN; rw [Bool.and_comm, Int.mul_comm, Int.add_comm]

/-- what a number that there is is worth -/
theorem normZ_ok {S e m f : Int} (h : normZ S e = ((m, f), 0)) : right m f = true ∧ ((S = 0 ∧ m = 0 ∧ f = 0) ∨ (m ≠ 0 ∧ ∃ k : Nat, S = m * (10 ^ k : Nat) ∧ f = e + k)) := by
  unfold normZ at h
  by_cases hS : S = 0
  · subst hS
    have h2 : (((0 : Int), (0 : Int)), (0 : Int)) = ((m, f), 0) := h
    simp only [Prod.mk.injEq] at h2
    obtain ⟨⟨rfl, rfl⟩, _⟩ := h2
    exact ⟨by decide, .inl ⟨rfl, rfl, rfl⟩⟩
  · obtain ⟨a, k, ha, hk⟩ := exists_form S.natAbs (by omega)
    rw [hk, norm_of _ _ _ _ ha] at h
    unfold fin at h
    split at h
    · simp at h
    · rename_i hn
      simp only [Prod.mk.injEq] at h
      obtain ⟨⟨h1, h2⟩, _⟩ := h
      have hma : m.natAbs = a := by rw [← h1]; split <;> omega
      have hm0 : m ≠ 0 := by intro h0; subst h0; simp at hma; omega
      refine ⟨?_, .inr ⟨hm0, k, ?_, h2.symm⟩⟩
      · unfold right
        rw [if_neg hm0, hma]
        simp only [Bool.and_eq_true, decide_eq_true_eq]
        omega
      · rw [← h1]
        by_cases hneg : S < 0
        · simp only [hneg, decide_true, ↓reduceIte]
          rw [Int.neg_mul, ← Int.natCast_mul, ← hk]; omega
        · simp only [hneg, decide_false, Bool.false_eq_true, ↓reduceIte]
          rw [← Int.natCast_mul, ← hk]; omega

theorem addN_rights {m1 e1 m2 e2 : Int} {p : Int × Int} (h : addN m1 e1 m2 e2 = (p, 0)) : right m1 e1 = true ∧ right m2 e2 = true := by
  unfold addN at h
  split at h
  · rename_i hh; simpa using hh
  · simp at h
theorem mulN_rights {m1 e1 m2 e2 : Int} {p : Int × Int} (h : mulN m1 e1 m2 e2 = (p, 0)) : right m1 e1 = true ∧ right m2 e2 = true := by
  unfold mulN at h
  split at h
  · rename_i hh; simpa using hh
  · simp at h
theorem right_neg {m e : Int} (h : right m e = true) : right (-m) e = true := by
  unfold right at *
  by_cases h0 : m = 0
  · subst h0; exact h
  · rw [if_neg h0] at h; rw [if_neg (by omega), Int.natAbs_neg]; exact h
theorem pow_int_add (a b : Nat) : ((10 ^ (a + b) : Nat) : Int) = ((10 ^ a : Nat) : Int) * ((10 ^ b : Nat) : Int) := by rw [Nat.pow_add, Int.natCast_mul]
/-- a number, at an exponent below its own -/
theorem normZ_low {m e l : Int} (h : l ≤ e) : normZ (m * (10 ^ (e - l).toNat : Nat)) l = normZ m e := by
  rw [normZ_shift]; congr 1; omega
theorem low_le1 (a b : Int) : low a b ≤ a := by unfold low; split <;> omega
theorem low_le2 (a b : Int) : low a b ≤ b := by unfold low; split <;> omega
/-- a sum, at an exponent further below -/
theorem sumZ_low {m1 e1 m2 e2 l l' : Int} (h : l ≤ l') (h1 : l' ≤ e1) (h2 : l' ≤ e2) : sumZ m1 e1 m2 e2 l = sumZ m1 e1 m2 e2 l' * (10 ^ (l' - l).toNat : Nat) := by
  unfold sumZ
  rw [show (e1 - l).toNat = (e1 - l').toNat + (l' - l).toNat by omega, show (e2 - l).toNat = (e2 - l').toNat + (l' - l).toNat by omega, pow_int_add, pow_int_add, Int.add_mul, Int.mul_assoc, Int.mul_assoc]
theorem normZ_sum {m1 e1 m2 e2 l l' : Int} (h : l ≤ l') (h1 : l' ≤ e1) (h2 : l' ≤ e2) : normZ (sumZ m1 e1 m2 e2 l') l' = normZ (sumZ m1 e1 m2 e2 l) l := by
  rw [sumZ_low h h1 h2, normZ_shift]; congr 1; omega

theorem sub_undoes {m1 e1 m2 e2 m f : Int} (h : addN m1 e1 m2 e2 = ((m, f), 0)) : subN m f m2 e2 = ((m1, e1), 0) := by
  obtain ⟨r1, r2⟩ := addN_rights h
  unfold addN at h
  rw [r1, r2] at h
  simp only [Bool.and_self, ↓reduceIte] at h
  have hl1 := low_le1 e1 e2
  have hl2 := low_le2 e1 e2
  generalize low e1 e2 = l at *
  obtain ⟨r, hS⟩ := normZ_ok h
  unfold subN
  rw [if_pos r2]
  rcases hS with ⟨hS, rfl, rfl⟩ | ⟨hm, k, hS, hf⟩
  · rw [addN_zero_left r (right_neg r2), ← normZ_right (right_neg r2), ← normZ_right r1, ← normZ_low hl1, ← normZ_low hl2]
    congr 1
    unfold sumZ at hS
    rw [Int.neg_mul]; omega
  · unfold addN
    rw [r, right_neg r2]
    simp only [Bool.and_self, ↓reduceIte]
    have hg1 := low_le1 f e2
    have hg2 := low_le2 f e2
    have hl3 : l ≤ low f e2 := by unfold low; split <;> omega
    generalize low f e2 = l' at *
    rw [normZ_sum hl3 hg1 hg2, ← normZ_right r1, ← normZ_low hl1]
    congr 1
    have : sumZ m f (-m2) e2 l = m * (10 ^ k : Nat) - m2 * (10 ^ (e2 - l).toNat : Nat) := by
      unfold sumZ; rw [show (f - l).toNat = k by omega, Int.neg_mul]; omega
    rw [this, ← hS]
    unfold sumZ; omega

theorem div_undoes {m1 e1 m2 e2 m f : Int} (h : mulN m1 e1 m2 e2 = ((m, f), 0)) (h0 : m2 ≠ 0) : divN m f m2 e2 = ((m1, e1), 0) := by
  obtain ⟨r1, r2⟩ := mulN_rights h
  unfold mulN at h
  rw [r1, r2] at h
  simp only [Bool.and_self, ↓reduceIte] at h
  obtain ⟨r, hS⟩ := normZ_ok h
  have hw : wrongS m f m2 e2 = 0 := by unfold wrongS; rw [r, r2]; simp [h0]
  unfold divN
  rw [if_neg (by simpa using hw)]
  rcases hS with ⟨hS, rfl, rfl⟩ | ⟨hm, k, hS, hf⟩
  · have hm1 : m1 = 0 := by
      rcases Int.mul_eq_zero.1 hS with h | h
      · exact h
      · exact absurd h h0
    subst hm1
    have he1 : e1 = 0 := by simpa [right] using r1
    subst he1
    exact divR_zero _ _ _
  · have hn : m.natAbs * 10 ^ k = m1.natAbs * m2.natAbs := by
      have := congrArg Int.natAbs hS
      rw [Int.natAbs_mul, Int.natAbs_mul] at this
      exact this.symm
    have hb1 := right_size r1
    have hb2 := right_size r2
    have hm1 : m1 ≠ 0 := by
      rintro rfl
      rw [Int.zero_mul] at hS
      rcases Int.mul_eq_zero.1 hS.symm with h | h
      · exact hm h
      · have := Nat.pow_pos (n := k) (show 0 < 10 by omega); omega
    have hk : k < 39 := pow_small k m.natAbs _ (by omega) hn (by
      have := Nat.mul_le_mul (Nat.le_of_lt hb1) (Nat.le_of_lt hb2); omega)
    have h100 : m.natAbs * 10 ^ 100 = m2.natAbs * (m1.natAbs * 10 ^ (100 - k)) := by
      rw [show (10 : Nat) ^ 100 = 10 ^ k * 10 ^ (100 - k) by rw [← Nat.pow_add]; congr 1; omega, ← Nat.mul_assoc, hn, ← Nat.mul_assoc, Nat.mul_comm m2.natAbs]
    unfold divR
    rw [if_pos ⟨_, h100⟩, h100, Nat.mul_div_cancel_left _ (by omega), norm_shift, ← normZ_right r1]
    have hs : (decide (m < 0) != decide (m2 < 0)) = decide (m1 < 0) := by
      have hp : (0 : Int) < ((10 ^ k : Nat) : Int) := by have := Nat.pow_pos (n := k) (show 0 < 10 by omega); omega
      by_cases c1 : m1 < 0 <;> by_cases c2 : m2 < 0 <;> by_cases c : m < 0
      all_goals simp only [c1, c2, c, decide_true, decide_false, bne_self_eq_false, Bool.bne_true, Bool.bne_false, Bool.not_false]
      all_goals exfalso
      all_goals first
        | (have a1 := Int.mul_neg_of_neg_of_pos c hp)
        | (have a1 := Int.mul_nonneg (show 0 ≤ m by omega) (Int.le_of_lt hp); have a3 := Int.mul_pos (show 0 < m by omega) hp)
      all_goals first
        | (have a2 := Int.mul_pos_of_neg_of_neg c1 c2; omega)
        | (have a2 := Int.mul_neg_of_neg_of_pos c1 (show 0 < m2 by omega); omega)
        | (have a2 := Int.mul_neg_of_pos_of_neg (show 0 < m1 by omega) c2; omega)
        | (have a2 := Int.mul_pos (show 0 < m1 by omega) (show 0 < m2 by omega); omega)
    rw [hs]
    unfold normZ
    congr 1; omega
end Go.Proofs.YtljemfajjeoecaaDoor
namespace Go.Proofs.YtljemfajjeoecaaDoor
open Go Go.RowKit Go.Proofs Th

/-- the last byte is no nought -/
def Last (l : List UInt8) : Prop := ∀ h : l ≠ [], l.getLast h ≠ 48
theorem Last.tail {x : UInt8} {l : List UInt8} (h : Last (x :: l)) : Last l := by
  intro hl
  have := h (by simp)
  rwa [List.getLast_cons hl] at this
theorem val_pos {l : List UInt8} (hd : AllDig l) (hl : Last l) (h0 : l ≠ []) : 0 < val (dgs l) := by
  have hs : l = l.dropLast ++ [l.getLast h0] := (List.dropLast_concat_getLast h0).symm
  have hx := hl h0
  have hr := hd (l.getLast h0) (List.getLast_mem h0)
  have : (l.getLast h0).toNat ≠ 48 := fun h => hx (UInt8.toNat.inj h)
  rw [hs, dgs_append, show dgs [l.getLast h0] = [dg (l.getLast h0)] from rfl, val_snoc]
  unfold dg
  omega
/-- what a row of digits is worth, with noughts behind it -/
def padV (l : List UInt8) (n : Nat) : Nat := val (dgs l) * 10 ^ (n - l.length)
theorem padV_cons (x : UInt8) (l : List UInt8) (n : Nat) (h : l.length ≤ n) : padV (x :: l) (n + 1) = dg x * 10 ^ n + padV l n := by
  unfold padV
  rw [show dgs (x :: l) = dg x :: dgs l from rfl, val_cons, dgs_length, List.length_cons, show n + 1 - (l.length + 1) = n - l.length by omega, Nat.add_mul, Nat.mul_assoc, ← Nat.pow_add, show l.length + (n - l.length) = n by omega]
theorem padV_lt (l : List UInt8) (n : Nat) (hd : AllDig l) (h : l.length ≤ n) : padV l n < 10 ^ n := by
  unfold padV
  have := val_lt _ (dgs_all l hd)
  rw [dgs_length] at this
  have h2 : val (dgs l) * 10 ^ (n - l.length) < 10 ^ l.length * 10 ^ (n - l.length) := Nat.mul_lt_mul_of_pos_right this (Nat.pow_pos (by omega))
  rwa [← Nat.pow_add, show l.length + (n - l.length) = n by omega] at h2
theorem padV_pos {l : List UInt8} {n : Nat} (hd : AllDig l) (hl : Last l) (h0 : l ≠ []) : 0 < padV l n := Nat.mul_pos (val_pos hd hl h0) (Nat.pow_pos (by omega))

theorem cmp_lex (a : List UInt8) : ∀ (b : List UInt8) (n : Nat), AllDig a → AllDig b → Last a → Last b → a.length ≤ n → b.length ≤ n → Lib.compareBytes a b = cmp3 (padV a n) (padV b n) := by
  induction a with
  | nil =>
    intro b n _ hb _ lb _ _
    cases b with
    | nil => simp [Lib.compareBytes, cmp3]
    | cons y b =>
      have := padV_pos (n := n) hb lb (by simp)
      have e : padV [] n = 0 := by simp [padV, dgs, val]
      simp only [Lib.compareBytes, cmp3, e]
      rw [if_pos (by omega)]
  | cons x a ih =>
    intro b n ha hb la lb hna hnb
    cases b with
    | nil =>
      have := padV_pos (n := n) ha la (by simp)
      have e : padV [] n = 0 := by simp [padV, dgs, val]
      simp only [Lib.compareBytes, cmp3, e]
      rw [if_neg (by omega), if_pos (by omega)]
    | cons y b =>
      obtain ⟨k, rfl⟩ : ∃ k, n = k + 1 := ⟨n - 1, by simp at hna; omega⟩
      simp only [List.length_cons] at hna hnb
      have hx := ha x (by simp)
      have hy := hb y (by simp)
      have ha' : AllDig a := fun c hc => ha c (by simp [hc])
      have hb' : AllDig b := fun c hc => hb c (by simp [hc])
      have h1 := padV_lt a k ha' (by omega)
      have h2 := padV_lt b k hb' (by omega)
      have hxy : x < y ↔ x.toNat < y.toNat := UInt8.lt_iff_toNat_lt
      have hyx : y < x ↔ y.toNat < x.toNat := UInt8.lt_iff_toNat_lt
      rw [padV_cons _ _ _ (by omega), padV_cons _ _ _ (by omega)]
      have ih' := ih b k ha' hb' la.tail lb.tail (by omega) (by omega)
      generalize padV a k = A at *
      generalize padV b k = B at *
      have step : ∀ p q : Nat, p < q → p * 10 ^ k + 10 ^ k ≤ q * 10 ^ k := by
        intro p q h
        have := Nat.mul_le_mul_right (10 ^ k) (show p + 1 ≤ q from h)
        rwa [Nat.add_mul, Nat.one_mul] at this
      simp only [Lib.compareBytes]
      by_cases c1 : x < y
      · rw [if_pos c1]
        have := step (dg x) (dg y) (by unfold dg; have := hxy.1 c1; omega)
        unfold cmp3; rw [if_pos (by omega)]
      · rw [if_neg c1]
        by_cases c2 : y < x
        · rw [if_pos c2]
          have := step (dg y) (dg x) (by unfold dg; have := hyx.1 c2; omega)
          unfold cmp3; rw [if_neg (by omega), if_pos (by omega)]
        · rw [if_neg c2, ih']
          have : dg x = dg y := by have h3 : ¬ x.toNat < y.toNat := fun h => c1 (hxy.2 h); have h4 : ¬ y.toNat < x.toNat := fun h => c2 (hyx.2 h); unfold dg; omega
          rw [this]
          unfold cmp3
          by_cases d1 : (A : Int) < B
          · rw [if_pos d1, if_pos (by omega)]
          · rw [if_neg d1]
            by_cases d2 : (B : Int) < A
            · rw [if_pos d2, if_neg (by omega), if_pos (by omega)]
            · rw [if_neg d2, if_neg (by omega), if_neg (by omega)]

theorem dec_all (u : Nat) : AllDig (Lib.decDigits u) ∧ val (dgs (Lib.decDigits u)) = u := by
  induction u using Nat.strongRecOn with
  | ind u ih =>
    rw [Lib.decDigits]
    split
    · rename_i h
      have e : (UInt8.ofNat (48 + u)).toNat = 48 + u := by rw [UInt8.toNat_ofNat']; omega
      refine ⟨fun c hc => ?_, ?_⟩
      · rw [List.mem_singleton] at hc; subst hc; omega
      · show val [dg (UInt8.ofNat (48 + u))] = u
        unfold dg; rw [e]; simp [val]
    · rename_i h
      obtain ⟨h1, h2⟩ := ih (u / 10) (by omega)
      have e : (UInt8.ofNat (48 + u % 10)).toNat = 48 + u % 10 := by rw [UInt8.toNat_ofNat']; omega
      refine ⟨fun c hc => ?_, ?_⟩
      · rcases List.mem_append.1 hc with hc | hc
        · exact h1 c hc
        · rw [List.mem_singleton] at hc; subst hc; omega
      · rw [dgs_append, show dgs [UInt8.ofNat (48 + u % 10)] = [dg (UInt8.ofNat (48 + u % 10))] from rfl, val_snoc, h2]
        unfold dg; rw [e]; omega
theorem dec_last (u : Nat) (h : u % 10 ≠ 0) : Last (Lib.decDigits u) := by
  intro hn
  have hs : Lib.decDigits u = (Lib.decDigits u).dropLast ++ [(Lib.decDigits u).getLast hn] := (List.dropLast_concat_getLast hn).symm
  have hv := (dec_all u).2
  rw [hs, dgs_append, show dgs [(Lib.decDigits u).getLast hn] = [dg ((Lib.decDigits u).getLast hn)] from rfl, val_snoc] at hv
  intro h0
  rw [h0, show dg 48 = 0 from rfl] at hv
  omega
theorem nDigits_ge (u : Nat) (h : u ≠ 0) : 10 ^ (Lib.nDigits u - 1) ≤ u := by
  induction u using Nat.strongRecOn with
  | ind u ih =>
    rw [Lib.nDigits]
    split
    · simp; omega
    · have := ih (u / 10) (by omega) (by omega)
      have hp : 1 ≤ Lib.nDigits (u / 10) := by
        rw [Lib.nDigits]; split <;> omega
      rw [show Lib.nDigits (u / 10) + 1 - 1 = (Lib.nDigits (u / 10) - 1) + 1 by omega, Nat.pow_succ]
      omega
theorem nDigits_one (u : Nat) : 1 ≤ Lib.nDigits u := by rw [Lib.nDigits]; split <;> omega

/-- a number's worth, times ten to the 64th -/
def V (m e : Int) : Int := m * (10 ^ (e + 64).toNat : Nat)
def aV (m e : Int) : Nat := m.natAbs * 10 ^ (e + 64).toNat
theorem aV_lt (m e : Int) (he : -64 ≤ e) : aV m e < 10 ^ ((Lib.nDigits m.natAbs : Int) + e + 64).toNat := by
  unfold aV
  have h1 : m.natAbs < 10 ^ Lib.nDigits m.natAbs := Lib.lt_pow_nDigits _
  have h2 : m.natAbs * 10 ^ (e + 64).toNat < 10 ^ Lib.nDigits m.natAbs * 10 ^ (e + 64).toNat := Nat.mul_lt_mul_of_pos_right h1 (Nat.pow_pos (by omega))
  rw [← Nat.pow_add] at h2
  rwa [show ((Lib.nDigits m.natAbs : Int) + e + 64).toNat = Lib.nDigits m.natAbs + (e + 64).toNat by omega]
theorem aV_ge (m e : Int) (hm : m ≠ 0) (he : -64 ≤ e) : 10 ^ (((Lib.nDigits m.natAbs : Int) + e + 64).toNat - 1) ≤ aV m e := by
  unfold aV
  have h1 := nDigits_ge m.natAbs (by omega)
  have h0 := nDigits_one m.natAbs
  have h2 := Nat.mul_le_mul_right (10 ^ (e + 64).toNat) h1
  rw [← Nat.pow_add] at h2
  rwa [show ((Lib.nDigits m.natAbs : Int) + e + 64).toNat - 1 = Lib.nDigits m.natAbs - 1 + (e + 64).toNat by omega]
theorem aV_cmp_far {m1 e1 m2 e2 : Int} (h1 : m1 ≠ 0) (h2 : m2 ≠ 0) (he1 : -64 ≤ e1) (he2 : -64 ≤ e2) (hne : (Lib.nDigits m1.natAbs : Int) + e1 ≠ (Lib.nDigits m2.natAbs : Int) + e2) :
    cmp3 (aV m1 e1) (aV m2 e2) = cmp3 ((Lib.nDigits m1.natAbs : Int) + e1) ((Lib.nDigits m2.natAbs : Int) + e2) := by
  have a1 := aV_lt m1 e1 he1
  have a2 := aV_lt m2 e2 he2
  have b1 := aV_ge m1 e1 h1 he1
  have b2 := aV_ge m2 e2 h2 he2
  have n1 := nDigits_one m1.natAbs
  have n2 := nDigits_one m2.natAbs
  by_cases hlt : (Lib.nDigits m1.natAbs : Int) + e1 < (Lib.nDigits m2.natAbs : Int) + e2
  · have := Nat.pow_le_pow_right (n := 10) (by omega) (show ((Lib.nDigits m1.natAbs : Int) + e1 + 64).toNat ≤ ((Lib.nDigits m2.natAbs : Int) + e2 + 64).toNat - 1 by omega)
    unfold cmp3; rw [if_pos hlt, if_pos (by omega)]
  · have := Nat.pow_le_pow_right (n := 10) (by omega) (show ((Lib.nDigits m2.natAbs : Int) + e2 + 64).toNat ≤ ((Lib.nDigits m1.natAbs : Int) + e1 + 64).toNat - 1 by omega)
    unfold cmp3; rw [if_neg hlt, if_neg (by omega), if_pos (by omega), if_pos (by omega)]
theorem aV_pad (m e : Int) (he : -64 ≤ e) : aV m e = padV (Lib.decDigits m.natAbs) ((Lib.nDigits m.natAbs : Int) + e + 64).toNat := by
  unfold aV padV
  rw [(dec_all _).2, Lib.decDigits_length]
  congr 2; omega
theorem aV_cmp_near {m1 e1 m2 e2 : Int} (h1 : m1.natAbs % 10 ≠ 0) (h2 : m2.natAbs % 10 ≠ 0) (he1 : -64 ≤ e1) (he2 : -64 ≤ e2) (hne : (Lib.nDigits m1.natAbs : Int) + e1 = (Lib.nDigits m2.natAbs : Int) + e2) :
    cmp3 (aV m1 e1) (aV m2 e2) = Lib.compareBytes (Lib.decDigits m1.natAbs) (Lib.decDigits m2.natAbs) := by
  rw [aV_pad m1 e1 he1, aV_pad m2 e2 he2, hne]
  refine (cmp_lex _ _ _ (dec_all _).1 (dec_all _).1 (dec_last _ h1) (dec_last _ h2) ?_ ?_).symm
  · rw [Lib.decDigits_length]; omega
  · rw [Lib.decDigits_length]; omega
theorem V_pos {m e : Int} (h : 0 ≤ m) : V m e = aV m e := by
  unfold V aV; rw [Int.natCast_mul]; congr 1; omega
theorem V_neg {m e : Int} (h : m ≤ 0) : V m e = -(aV m e : Int) := by
  unfold V aV; rw [Int.natCast_mul, ← Int.neg_mul]; congr 1; omega
theorem aV_pos {m e : Int} (h : m ≠ 0) : 0 < aV m e := Nat.mul_pos (by omega) (Nat.pow_pos (by omega))
theorem cmp3_neg (a b : Int) : cmp3 (-a) (-b) = -1 * cmp3 a b := by
  unfold cmp3
  by_cases h : a < b
  · rw [if_neg (by omega), if_pos (by omega), if_pos h]; rfl
  · by_cases h2 : b < a
    · rw [if_pos (by omega), if_neg h, if_pos h2]; rfl
    · rw [if_neg (by omega), if_neg (by omega), if_neg h, if_neg h2]; rfl

theorem cmpS_V {m1 e1 m2 e2 : Int} (h1 : right m1 e1 = true) (h2 : right m2 e2 = true) : cmpS m1 e1 m2 e2 = cmp3 (V m1 e1) (V m2 e2) := by
  have x1 := right_exp h1
  have x2 := right_exp h2
  unfold cmpS
  have near := fun (n1 : m1 ≠ 0) (n2 : m2 ≠ 0) => aV_cmp_near (right_spec h1 n1).2.1 (right_spec h2 n2).2.1 x1.1 x2.1
  have far := fun (n1 : m1 ≠ 0) (n2 : m2 ≠ 0) => aV_cmp_far n1 n2 x1.1 x2.1
  have p1 := fun (n1 : m1 ≠ 0) => aV_pos (e := e1) n1
  have p2 := fun (n2 : m2 ≠ 0) => aV_pos (e := e2) n2
  have z1 : m1 = 0 → V m1 e1 = 0 := fun h => by subst h; simp [V]
  have z2 : m2 = 0 → V m2 e2 = 0 := fun h => by subst h; simp [V]
  rcases Int.lt_trichotomy m1 0 with c1 | c1 | c1 <;> rcases Int.lt_trichotomy m2 0 with c2 | c2 | c2
  · have s1 := Int.sign_eq_neg_one_of_neg c1
    have s2 := Int.sign_eq_neg_one_of_neg c2
    rw [s1, s2, if_neg (by omega), V_neg (by omega), V_neg (by omega), cmp3_neg]
    split
    · rename_i h; rw [far (by omega) (by omega) h]; rfl
    · rename_i h; rw [near (by omega) (by omega) (by unfold nd at h; omega)]
  · have s1 := Int.sign_eq_neg_one_of_neg c1
    have := p1 (by omega)
    rw [z2 c2, c2, s1, if_pos (by decide), V_neg (by omega)]
    unfold cmp3; rw [if_pos (by decide), if_pos (by omega)]
  · have s1 := Int.sign_eq_neg_one_of_neg c1
    have s2 := Int.sign_eq_one_of_pos c2
    have := p1 (by omega)
    have := p2 (by omega)
    rw [s1, s2, if_pos (by omega), V_neg (by omega), V_pos (by omega)]
    unfold cmp3; rw [if_pos (by decide), if_pos (by omega)]
  · have s2 := Int.sign_eq_neg_one_of_neg c2
    have := p2 (by omega)
    rw [z1 c1, c1, s2, if_pos (by decide), V_neg (by omega)]
    unfold cmp3; rw [if_neg (by decide), if_pos (by decide), if_neg (by omega), if_pos (by omega)]
  · rw [z1 c1, z2 c2, c1, c2, if_pos (by decide)]; rfl
  · have s2 := Int.sign_eq_one_of_pos c2
    have := p2 (by omega)
    rw [z1 c1, c1, s2, if_pos (by decide), V_pos (by omega)]
    unfold cmp3; rw [if_pos (by decide), if_pos (by omega)]
  · have s1 := Int.sign_eq_one_of_pos c1
    have s2 := Int.sign_eq_neg_one_of_neg c2
    have := p1 (by omega)
    have := p2 (by omega)
    rw [s1, s2, if_pos (by omega), V_pos (by omega), V_neg (by omega)]
    unfold cmp3; rw [if_neg (by decide), if_pos (by decide), if_neg (by omega), if_pos (by omega)]
  · have s1 := Int.sign_eq_one_of_pos c1
    have := p1 (by omega)
    rw [z2 c2, c2, s1, if_pos (by decide), V_pos (by omega)]
    unfold cmp3; rw [if_neg (by decide), if_pos (by decide), if_neg (by omega), if_pos (by omega)]
  · have s1 := Int.sign_eq_one_of_pos c1
    have s2 := Int.sign_eq_one_of_pos c2
    rw [s1, s2, if_neg (by omega), V_pos (by omega), V_pos (by omega)]
    split
    · rename_i h; rw [Int.one_mul, far (by omega) (by omega) h]; rfl
    · rename_i h; rw [Int.one_mul, near (by omega) (by omega) (by unfold nd at h; omega)]

theorem normZ_V {m e : Int} (he : -64 ≤ e) : normZ (V m e) (-64) = normZ m e := by
  unfold V
  rw [normZ_shift]; congr 1; omega
theorem V_inj {m1 e1 m2 e2 : Int} (h1 : right m1 e1 = true) (h2 : right m2 e2 = true) (h : V m1 e1 = V m2 e2) : m1 = m2 ∧ e1 = e2 := by
  have a := normZ_right h1
  have b := normZ_right h2
  rw [← normZ_V (right_exp h1).1, h, normZ_V (right_exp h2).1, b] at a
  simp only [Prod.mk.injEq] at a
  exact ⟨a.1.1.symm, a.1.2.symm⟩
theorem V_sum {m1 e1 m2 e2 m f : Int} (h : addN m1 e1 m2 e2 = ((m, f), 0)) : V m f = V m1 e1 + V m2 e2 := by
  obtain ⟨r1, r2⟩ := addN_rights h
  have x1 := right_exp r1
  have x2 := right_exp r2
  unfold addN at h
  rw [r1, r2] at h
  simp only [Bool.and_self, ↓reduceIte] at h
  have hl1 := low_le1 e1 e2
  have hl2 := low_le2 e1 e2
  have hl : -64 ≤ low e1 e2 := by unfold low; split <;> omega
  generalize low e1 e2 = l at *
  obtain ⟨r, hS⟩ := normZ_ok h
  have hsum : V m1 e1 + V m2 e2 = sumZ m1 e1 m2 e2 l * (10 ^ (l + 64).toNat : Nat) := by
    unfold V sumZ
    rw [Int.add_mul, Int.mul_assoc, Int.mul_assoc, ← pow_int_add, ← pow_int_add]
    congr 4 <;> omega
  rw [hsum]
  rcases hS with ⟨hS, rfl, rfl⟩ | ⟨hm, k, hS, hf⟩
  · rw [hS]; simp [V]
  · rw [hS]; unfold V
    rw [Int.mul_assoc, ← pow_int_add]
    congr 3; omega
theorem V_minus (m e : Int) : V (-m) e = - V m e := by unfold V; rw [Int.neg_mul]
theorem V_sign {m e : Int} : V m e < 0 ↔ m < 0 := by
  have hp : (0 : Int) < ((10 ^ (e + 64).toNat : Nat) : Int) := by have := Nat.pow_pos (n := (e + 64).toNat) (show 0 < 10 by omega); omega
  unfold V
  constructor
  · intro h
    by_cases h' : m < 0
    · exact h'
    · have := Int.mul_nonneg (show 0 ≤ m by omega) (Int.le_of_lt hp); omega
  · intro h; exact Int.mul_neg_of_neg_of_pos h hp
theorem cmp3_antisymm (a b : Int) : cmp3 a b = - cmp3 b a := by
  unfold cmp3
  by_cases h : a < b
  · rw [if_pos h, if_neg (by omega), if_pos h]
  · by_cases h2 : b < a
    · rw [if_neg h, if_pos h2, if_pos h2]; rfl
    · rw [if_neg h, if_neg h2, if_neg h2, if_neg h]; rfl
theorem cmp3_zero {a b : Int} : cmp3 a b = 0 ↔ a = b := by
  unfold cmp3
  by_cases h : a < b
  · rw [if_pos h]; omega
  · by_cases h2 : b < a
    · rw [if_neg h, if_pos h2]; omega
    · rw [if_neg h, if_neg h2]; omega
theorem cmp3_lt {a b : Int} : cmp3 a b < 0 ↔ a < b := by
  unfold cmp3
  by_cases h : a < b
  · rw [if_pos h]; omega
  · by_cases h2 : b < a
    · rw [if_neg h, if_pos h2]; omega
    · rw [if_neg h, if_neg h2]; omega

theorem order_same {m1 e1 m2 e2 : Int} (h1 : right m1 e1 = true) (h2 : right m2 e2 = true) : (cmpS m1 e1 m2 e2 == 0) = (m1 == m2 && e1 == e2) := by
  rw [cmpS_V h1 h2, Bool.eq_iff_iff]
  simp only [beq_iff_eq, Bool.and_eq_true, cmp3_zero]
  constructor
  · exact V_inj h1 h2
  · rintro ⟨rfl, rfl⟩; rfl
theorem order_turn {m1 e1 m2 e2 : Int} (h1 : right m1 e1 = true) (h2 : right m2 e2 = true) : cmpS m2 e2 m1 e1 = - cmpS m1 e1 m2 e2 := by
  rw [cmpS_V h1 h2, cmpS_V h2 h1, cmp3_antisymm]
theorem order_bd {m1 e1 m2 e2 : Int} (h1 : right m1 e1 = true) (h2 : right m2 e2 = true) : -1 ≤ cmpS m1 e1 m2 e2 ∧ cmpS m1 e1 m2 e2 ≤ 1 := by
  rw [cmpS_V h1 h2]; exact cmp3_bd _ _
theorem order_sub {m1 e1 m2 e2 m f : Int} (h1 : right m1 e1 = true) (h2 : right m2 e2 = true) (h : subN m1 e1 m2 e2 = ((m, f), 0)) : decide (cmpS m1 e1 m2 e2 < 0) = decide (m < 0) := by
  unfold subN at h
  rw [if_pos h2] at h
  have := V_sum h
  rw [V_minus] at this
  rw [decide_eq_decide, cmpS_V h1 h2, cmp3_lt, ← V_sign (e := f), this]
  omega
theorem order_add {m1 e1 m2 e2 m3 e3 m f n g : Int} (h : addN m1 e1 m3 e3 = ((m, f), 0)) (h' : addN m2 e2 m3 e3 = ((n, g), 0)) (r : right m f = true) (r' : right n g = true) : cmpN m f n g = (cmpS m1 e1 m2 e2, 0) := by
  obtain ⟨r1, _⟩ := addN_rights h
  obtain ⟨r2, _⟩ := addN_rights h'
  unfold cmpN
  rw [r, r', cmpS_V r r', cmpS_V r1 r2, V_sum h, V_sum h']
  simp only [Bool.and_self, ↓reduceIte]
  congr 1
  unfold cmp3
  by_cases c : V m1 e1 < V m2 e2
  · rw [if_pos c, if_pos (by omega)]
  · by_cases c2 : V m2 e2 < V m1 e1
    · rw [if_neg c, if_pos c2, if_neg (by omega), if_pos (by omega)]
    · rw [if_neg c, if_neg c2, if_neg (by omega), if_neg (by omega)]
end Go.Proofs.YtljemfajjeoecaaDoor
namespace Go.Proofs.YtljemfajjeoecaaDoor
open Go Go.RowKit Go.Proofs Th

theorem nDig_stop (a : List UInt8) (c : UInt8) (r : List UInt8) (h : AllDig a) (hc : ¬ (48 ≤ c.toNat ∧ c.toNat ≤ 57)) : nDig (a ++ c :: r) = a.length := by
  induction a with
  | nil => simp [nDig, hc]
  | cons x a ih => rw [List.cons_append, nDig, if_pos (h x (by simp)), ih (fun y hy => h y (by simp [hy]))]; rfl
theorem dec_nil (u : Nat) : Lib.decDigits u ≠ [] := by
  intro h
  have := congrArg List.length h
  rw [Lib.decDigits_length] at this
  have h1 := nDigits_one u
  rw [List.length_nil] at this; omega
theorem dec_head (u : Nat) (h : u ≠ 0) : ∃ c t, Lib.decDigits u = c :: t ∧ 49 ≤ c.toNat ∧ c.toNat ≤ 57 := by
  cases hd : Lib.decDigits u with
  | nil => exact absurd hd (dec_nil u)
  | cons c t =>
    refine ⟨c, t, rfl, ?_⟩
    have h1 := (dec_all u).1 c (by rw [hd]; simp)
    have h2 := (dec_all u).2
    have h3 := nDigits_ge u h
    have h4 := Lib.decDigits_length u
    rw [hd] at h2 h4
    rw [show dgs (c :: t) = dg c :: dgs t from rfl, val_cons, dgs_length] at h2
    have ht : AllDig t := fun x hx => (dec_all u).1 x (by rw [hd]; simp [hx])
    have h5 := val_lt _ (dgs_all t ht)
    rw [dgs_length] at h5
    simp only [List.length_cons] at h4
    rw [← h4, show t.length + 1 - 1 = t.length by omega] at h3
    refine ⟨?_, h1.2⟩
    have : dg c ≠ 0 := by
      intro h0
      rw [h0] at h2; omega
    unfold dg at this; omega
theorem all_zeros (n : Nat) : AllDig (List.replicate n 48) := by
  intro c hc
  rw [List.eq_of_mem_replicate hc]; decide
theorem val_zeros (n : Nat) : val (dgs (List.replicate n 48)) = 0 := by
  induction n with
  | zero => rfl
  | succ n ih => rw [List.replicate_succ, show dgs (48 :: List.replicate n 48) = 0 :: dgs (List.replicate n 48) from rfl, val_cons, ih]; simp
theorem fracP_nil : fracP [] = some ([], []) := by unfold fracP; simp
theorem expoP_nil : expoP [] = some (false, []) := by unfold expoP; simp
theorem head_append {a b : List UInt8} {c : UInt8} {t : List UInt8} (h : a = c :: t) : (a ++ b).head? = some c := by rw [h]; rfl

theorem core_whole (neg : Bool) (T : List UInt8) (hd : AllDig T) (h0 : T ≠ []) (h1 : T.head? ≠ some 48) : coreN neg T = norm neg (val (dgs T)) 0 := by
  have hn := nDig_all T hd
  have hl : T.length ≠ 0 := by simpa using h0
  rw [core_good neg T [] [] [] false (by rw [hn]; rintro (h | h); exact hl h; exact h1 h.2) (by rw [hn, List.drop_length]; exact fracP_nil) expoP_nil, hn, List.take_length]
  simp [sg, clampN]
theorem core_point (neg : Bool) (A B : List UInt8) (ha : AllDig A) (hb : AllDig B) (h0 : A ≠ []) (hb0 : B ≠ []) (h1 : ¬ (1 < A.length ∧ A.head? = some 48)) : coreN neg (A ++ 46 :: B) = norm neg (val (dgs (A ++ B))) (-B.length) := by
  have hn := nDig_stop A 46 B ha (by decide)
  have hl : A.length ≠ 0 := by simpa using h0
  have hlb : B.length ≠ 0 := by simpa using hb0
  have hh : (A ++ 46 :: B).head? = A.head? := by cases A with | nil => exact absurd rfl h0 | cons _ _ => rfl
  have hd : (A ++ 46 :: B).drop A.length = 46 :: B := List.drop_left
  have ht : (A ++ 46 :: B).take A.length = A := List.take_left
  have hf : fracP (46 :: B) = some (B, []) := by
    unfold fracP
    have := nDig_all B hb
    simp only [List.head?_cons, ↓reduceIte, List.drop_succ_cons, List.drop_zero, this, List.take_length, List.drop_length]
    rw [if_neg hlb]
  rw [core_good neg _ B [] [] false (by rw [hn, hh]; rintro (h | h); exact hl h; exact h1 h) (by rw [hn, hd]; exact hf) expoP_nil, hn, ht]
  congr 1; simp [sg, clampN]
theorem expo_itoa (e : Int) (h : e.natAbs ≤ 64) : ∃ en x, expoP (101 :: Lib.itoa e) = some (en, x) ∧ sg en (clampN x) = e := by
  have hd := dec_all e.natAbs
  have hn := nDig_all _ hd.1
  have hl : (Lib.decDigits e.natAbs).length ≠ 0 := by have := dec_nil e.natAbs; simpa using this
  have hc : clampN (Lib.decDigits e.natAbs) = e.natAbs := by rw [clampN_eq, hd.2]; omega
  have chk : ∀ en, chkE en (Lib.decDigits e.natAbs) = some (en, Lib.decDigits e.natAbs) := by
    intro en; unfold chkE; rw [hn, if_neg (by omega)]
  by_cases h0 : e < 0
  · refine ⟨true, _, ?_, by rw [hc]; simp [sg]; omega⟩
    have : Lib.itoa e = 45 :: Lib.decDigits e.natAbs := by unfold Lib.itoa; rw [if_pos h0]
    rw [this]; unfold expoP; simp [chk]
  · refine ⟨false, _, ?_, by rw [hc]; simp [sg]; omega⟩
    have : Lib.itoa e = Lib.decDigits e.natAbs := by unfold Lib.itoa; rw [if_neg h0]; congr 1; omega
    rw [this]
    obtain ⟨c, t, hct⟩ : ∃ c t, Lib.decDigits e.natAbs = c :: t := by
      cases hx : Lib.decDigits e.natAbs with
      | nil => exact absurd hx (dec_nil _)
      | cons c t => exact ⟨c, t, rfl⟩
    have hr := hd.1 c (by rw [hct]; simp)
    have n45 : c ≠ 45 := by intro h; subst h; exact absurd hr.1 (by decide)
    have n43 : c ≠ 43 := by intro h; subst h; exact absurd hr.1 (by decide)
    have := chk false
    rw [hct] at this
    unfold expoP
    simp [hct, n45, n43, this]
theorem core_e (neg : Bool) (A : List UInt8) (e : Int) (ha : AllDig A) (h0 : A ≠ []) (h1 : A.head? ≠ some 48) (he : e.natAbs ≤ 64) : coreN neg (A ++ 101 :: Lib.itoa e) = norm neg (val (dgs A)) e := by
  obtain ⟨en, x, hx, hs⟩ := expo_itoa e he
  have hn := nDig_stop A 101 (Lib.itoa e) ha (by decide)
  have hl : A.length ≠ 0 := by simpa using h0
  have hh : (A ++ 101 :: Lib.itoa e).head? = A.head? := by cases A with | nil => exact absurd rfl h0 | cons _ _ => rfl
  have hd : (A ++ 101 :: Lib.itoa e).drop A.length = 101 :: Lib.itoa e := List.drop_left
  have ht : (A ++ 101 :: Lib.itoa e).take A.length = A := List.take_left
  have hf : fracP (101 :: Lib.itoa e) = some ([], 101 :: Lib.itoa e) := by unfold fracP; simp
  rw [core_good neg _ [] _ x en (by rw [hn, hh]; rintro (h | h); exact hl h; exact h1 h.2) (by rw [hn, hd]; exact hf) hx, hn, ht, hs]
  simp

/-- the text of a number without its sign -/
def bareN (m e : Int) : List UInt8 :=
  if 0 ≤ e ∧ (nd m : Int) + e ≤ 21 then Lib.decDigits m.natAbs ++ List.replicate e.toNat 48
  else if e < 0 ∧ -20 ≤ e then (pad m e).take ((pad m e).length + e).toNat ++ 46 :: (pad m e).drop ((pad m e).length + e).toNat
  else Lib.decDigits m.natAbs ++ 101 :: Lib.itoa e
theorem text_bare (m e : Int) : textN m e = sgn m ++ bareN m e := by
  unfold textN bareN
  split
  · rw [List.append_assoc]
  · split
    · simp
    · simp
theorem bare_head (m e : Int) (hm : m ≠ 0) : (bareN m e).head? ≠ some 45 := by
  obtain ⟨c, t, hc, h1, _⟩ := dec_head m.natAbs (by omega)
  have n45 : c ≠ 45 := by intro h; subst h; exact absurd h1 (by decide)
  unfold bareN
  split
  · rw [head_append hc]; simpa using n45
  · split
    · rename_i h
      have hn := nDigits_one m.natAbs
      unfold pad nd at *
      split
      · rename_i hp
        obtain ⟨k, hk⟩ : ∃ k, (1 - e - (Lib.nDigits m.natAbs : Int)).toNat = k + 1 := ⟨(1 - e - (Lib.nDigits m.natAbs : Int)).toNat - 1, by omega⟩
        rw [hk, List.replicate_succ, List.length_append, List.length_cons, List.length_replicate, Lib.decDigits_length]
        rw [show ((((k + 1 + Lib.nDigits m.natAbs : Nat) : Int)) + e).toNat = 0 + 1 by omega]
        simp
      · rename_i hp
        rw [Lib.decDigits_length]
        obtain ⟨k, hk⟩ : ∃ k, ((Lib.nDigits m.natAbs : Int) + e).toNat = k + 1 := ⟨((Lib.nDigits m.natAbs : Int) + e).toNat - 1, by omega⟩
        rw [hk, hc]
        simpa using n45
    · rw [head_append hc]; simpa using n45

theorem core_bare (neg : Bool) (m e : Int) (hm : m ≠ 0) (he0 : -64 ≤ e) (he1 : e ≤ 64) : coreN neg (bareN m e) = norm neg m.natAbs e := by
  have hd := dec_all m.natAbs
  obtain ⟨c, t, hc, h1, _⟩ := dec_head m.natAbs (by omega)
  have n48 : c ≠ 48 := by intro h; subst h; exact absurd h1 (by decide)
  have hh : (Lib.decDigits m.natAbs).head? ≠ some 48 := by rw [hc]; simpa using n48
  unfold bareN
  split
  · rename_i h
    rw [core_whole neg _ (allDig_append hd.1 (all_zeros _)) (by have := dec_nil m.natAbs; simp [this]) (by rw [head_append hc]; simpa using n48)]
    rw [dgs_append, val_append, val_zeros, hd.2, dgs_length, List.length_replicate, Nat.add_zero, norm_shift]
    congr 1; omega
  · split
    · rename_i h
      have hn := nDigits_one m.natAbs
      have hpd : AllDig (pad m e) ∧ val (dgs (pad m e)) = m.natAbs ∧ (1 - e) ≤ ((pad m e).length : Int) ∧ (1 < ((pad m e).length : Int) + e → (pad m e).head? ≠ some 48) := by
        unfold pad nd at *
        split
        · rename_i hp
          refine ⟨allDig_append (all_zeros _) hd.1, by rw [dgs_append, val_append, val_zeros, hd.2]; simp, ?_, ?_⟩
          · rw [List.length_append, List.length_replicate, Lib.decDigits_length]; omega
          · rw [List.length_append, List.length_replicate, Lib.decDigits_length]; omega
        · rename_i hp
          refine ⟨hd.1, hd.2, ?_, fun _ => hh⟩
          rw [Lib.decDigits_length]; omega
      obtain ⟨p1, p2, p3, p4⟩ := hpd
      generalize pad m e = P at *
      have hk : ((P.length : Int) + e).toNat ≤ P.length := by omega
      have hA : (P.take ((P.length : Int) + e).toNat).length = ((P.length : Int) + e).toNat := by rw [List.length_take]; omega
      have hB : (P.drop ((P.length : Int) + e).toNat).length = (-e).toNat := by rw [List.length_drop]; omega
      have q1 : AllDig (P.take ((P.length : Int) + e).toNat) := fun x hx => p1 x (List.mem_of_mem_take hx)
      have q2 : AllDig (P.drop ((P.length : Int) + e).toNat) := fun x hx => p1 x (List.mem_of_mem_drop hx)
      rw [core_point neg _ _ q1 q2 (by intro h0; rw [h0] at hA; simp at hA; omega) (by intro h0; rw [h0] at hB; simp at hB; omega) ?_, List.take_append_drop, p2, hB]
      · congr 1; omega
      · rw [hA]
        rintro ⟨g1, g2⟩
        apply p4 (by omega)
        cases hP : P with
        | nil => rw [hP] at g2; simp at g2
        | cons x l =>
          rw [hP] at g2
          obtain ⟨k, hk⟩ : ∃ k, (((x :: l).length : Int) + e).toNat = k + 1 := ⟨(((x :: l).length : Int) + e).toNat - 1, by rw [← hP]; omega⟩
          rw [hk] at g2
          simpa using g2
    · rename_i h
      rw [core_e neg _ e hd.1 (dec_nil _) hh (by omega), hd.2]

/-- what is printed is parsed -/
theorem parse_text (m e : Int) (h : right m e = true) : parseN (textN m e) = ((m, e), 0) := by
  by_cases hm : m = 0
  · subst hm
    have he : e = 0 := by simpa [right] using h
    subst he
    have : textN 0 0 = [48] := by
      unfold textN
      rw [if_pos (by unfold nd; rw [show (0 : Int).natAbs = 0 by rfl, Lib.nDigits_small (by omega)]; decide), show (0 : Int).natAbs = 0 by rfl, Lib.decDigits_one (by omega)]
      rfl
    rw [this]; decide
  · have hx := right_exp h
    rw [text_bare, ← normZ_right h]
    unfold parseN sgn normZ
    by_cases hn : m < 0
    · rw [if_pos hn]
      simp only [List.cons_append, List.nil_append, List.head?_cons, ↓reduceIte, List.drop_succ_cons, List.drop_zero, hn, decide_true]
      exact core_bare true m e hm hx.1 hx.2
    · rw [if_neg hn]
      simp only [List.nil_append, hn, decide_false]
      rw [if_neg (bare_head m e hm)]
      exact core_bare false m e hm hx.1 hx.2

theorem norm_ok {neg : Bool} {v : Nat} {e m f : Int} (h : norm neg v e = ((m, f), 0)) : right m f = true := by
  have : norm neg v e = normZ (if neg then -(v : Int) else v) e := by
    apply norm_eq
    · cases neg <;> simp
    · intro h0; cases neg <;> simp <;> omega
  rw [this] at h
  exact (normZ_ok h).1
theorem norm_bad {neg : Bool} {v : Nat} {e : Int} {p : Int × Int} {c : Int} (h : norm neg v e = (p, c)) (hc : c ≠ 0) : p = (0, 0) := by
  unfold norm fin at h
  split at h
  · simp only [Prod.mk.injEq] at h; exact absurd h.2.symm hc
  · split at h
    · simp only [Prod.mk.injEq] at h; obtain ⟨⟨rfl, rfl⟩, _⟩ := h; rfl
    · simp only [Prod.mk.injEq] at h; exact absurd h.2.symm hc
theorem core_ok {neg : Bool} {u : List UInt8} {m f : Int} (h : coreN neg u = ((m, f), 0)) : right m f = true := by
  unfold coreN at h
  split at h
  · simp at h
  · exact norm_ok h
theorem core_wrong {neg : Bool} {u : List UInt8} {p : Int × Int} {c : Int} (h : coreN neg u = (p, c)) (hc : c ≠ 0) : p = (0, 0) := by
  unfold coreN at h
  split at h
  · simp only [Prod.mk.injEq] at h; exact h.1.symm
  · exact norm_bad h hc
theorem parse_ok {l : List UInt8} {m f : Int} (h : parseN l = ((m, f), 0)) : right m f = true := by
  unfold parseN at h
  split at h <;> exact core_ok h
theorem parse_wrong {l : List UInt8} {p : Int × Int} {c : Int} (h : parseN l = (p, c)) (hc : c ≠ 0) : p = (0, 0) := by
  unfold parseN at h
  split at h <;> exact core_wrong h hc
theorem nd_small {m e : Int} (h : right m e = true) : nd m ≤ 18 := by
  unfold nd
  have hs := right_size h
  by_cases h0 : m.natAbs = 0
  · rw [h0, Lib.nDigits_small (by omega)]; omega
  · have h1 := nDigits_ge m.natAbs h0
    have h2 : (10 : Nat) ^ (Lib.nDigits m.natAbs - 1) < 10 ^ 18 := by omega
    have := (Nat.pow_lt_pow_iff_right (a := 10) (by omega)).1 h2
    omega
theorem text_short {m e : Int} (h : right m e = true) : (textN m e).length ≤ 3000 := by
  have h1 := nd_small h
  have hx := right_exp h
  have hi := itoa_len e hx.1 hx.2
  have hd : (Lib.decDigits m.natAbs).length ≤ 18 := by rw [Lib.decDigits_length]; exact h1
  have hs : (sgn m).length ≤ 1 := by unfold sgn; split <;> simp
  have hp : (pad m e).length ≤ 100 := by
    unfold pad; split
    · rw [List.length_append, List.length_replicate]; omega
    · omega
  unfold textN
  split
  · simp only [List.length_append, List.length_replicate]; omega
  · split
    · simp only [List.length_append, List.length_take, List.length_drop, List.length_cons, List.length_nil]; omega
    · simp only [List.length_append, List.length_cons, List.length_nil]; omega
/-- the text of a number that may be, as bytes -/
theorem text_bytes {m e : Int} (h : right m e = true) : ∃ T : ByteArray, printRes (printN m e) = .tuple #[.string T, .int .i64 0] ∧ parseN T.data.toList = ((m, e), 0) ∧ T.size ≤ 2305843009213693952 := by
  refine ⟨⟨(textN m e).toArray⟩, ?_, parse_text m e h, ?_⟩
  · unfold printN; rw [if_pos h]; rfl
  · have := text_short h
    rw [size_list]
    show (textN m e).toArray.toList.length ≤ _
    simp; omega
theorem text_not {m e : Int} (h : right m e = false) : printRes (printN m e) = .tuple #[.string ⟨#[]⟩, .int .i64 10] := by
  unfold printN; rw [if_neg (by simp [h])]; rfl

end Go.Proofs.YtljemfajjeoecaaDoor
