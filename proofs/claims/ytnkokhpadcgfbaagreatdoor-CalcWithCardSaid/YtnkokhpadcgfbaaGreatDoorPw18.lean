/- Lemmas and contracts for the laws CalcWith, part 18 of 50: RefRight, BackMath. Conditions: those that each lemma names. -/
import Derived.Test.YtnkokhpadcgfbaaGreatDoorPw15
import Derived.Test.YtnkokhpadcgfbaaGreatDoorPw5
import Derived.Test.YtnkokhpadcgfbaaGreatDoorPw12
import Derived.Test.YtnkokhpadcgfbaaGreatDoorPw13
import Derived.Test.YtnkokhpadcgfbaaGreatDoorPw1
import Derived.Test.YtnkokhpadcgfbaaGreatDoorPw16
import Derived.Test.YtnkokhpadcgfbaaGreatDoorPw17
import Derived.Test.YtnkokhpadcgfbaaGreatDoorPw8
import Derived.Test.YtnkokhpadcgfbaaGreatDoorPw11
import Derived.Lib.ItoaNum
import Derived.Lib.Bytealg
import Derived.StillTail
namespace Go.Proofs.YtnkokhpadcgfbaaGreatDoor
open Go Go.RowKit Go.Proofs Th
attribute [local go_sem] Above.cell
theorem right_far {m e : Int} (h : e < -64 ∨ 64 < e) : right m e = false := by
  unfold right
  split
  · simp; omega
  · simp; omega
theorem right_norm (m e : Int) (r : (Int × Int) × Int) (h : norm (decide (m < 0)) m.natAbs e = r) : (if r.2 = 0 then (r.1.1 == m && r.1.2 == e) else false) = right m e := by
  cases hr : right m e with
  | true =>
    have h2 := normZ_right hr
    unfold normZ at h2
    rw [h2] at h
    subst h
    simp
  | false =>
    split
    · rename_i h0
      obtain ⟨⟨a, b⟩, c⟩ := r
      simp only at h0
      subst h0
      simp only [Bool.and_eq_false_iff, beq_eq_false_iff_ne]
      by_cases ha : a = m
      · by_cases hb : b = e
        · subst ha hb
          rw [right_of_norm h] at hr
          cases hr
        · right; exact hb
      · left; exact ha
    · rfl
set_option maxRecDepth 100000 in
theorem ref_Right (m e : Int) (hm : I64 m) (w : World) :
    Calls Tryz.prog 146 #[.agg #[.int .i64 m, .int .i64 e]] w fun r w' => r = .returned (.bool (right m e)) ∧ Below w.heap.size w w' := by
  by_cases h1 : e < -64
  · have HR := Keep.mk (right_far (m := m) (Or.inl h1))
    go_enter Tryz.func146, Tryz.ntmps146
    go_wp2
    go_ret
    exact ⟨ret_bool HR.out.symm, al1 _ _⟩
  by_cases h2 : 64 < e
  · have HR := Keep.mk (right_far (m := m) (Or.inr h2))
    go_enter Tryz.func146, Tryz.ntmps146
    go_wp2
    go_ret
    exact ⟨ret_bool HR.out.symm, al1 _ _⟩
  have HN := Keep.mk (digs_len m.natAbs (by have := hm.lo; have := hm.hi; omega))
  have HD := Keep.mk (digs_digs m.natAbs)
  have HV := Keep.mk (val_digs m.natAbs)
  obtain ⟨r, hr⟩ : ∃ r, norm (decide (m < 0)) m.natAbs e = r := ⟨_, rfl⟩
  have HR := Keep.mk (right_norm m e r hr)
  have HE := Keep.mk (norm_err (decide (m < 0)) m.natAbs e)
  have HH := Keep.mk hr
  clear hr
  go_enter Tryz.func146, Tryz.ntmps146
  go_wp2_with fail
  refine (ref_long m e hm _).mono ?_
  rintro r1 w1 ⟨A, c, rfl, hI, hb1⟩
  unfold longV
  go_wp2_with fail
  refine (ref_short (decide (m < 0)) A c (digs m.natAbs) e HD.out (by have := HN.out; omega) (by omega) (by omega) w1 hI).mono ?_
  rw [HV.out, HH.out]
  rintro r2 w2 ⟨rfl, hb2'⟩
  have hb2 := up hb1 hb2'
  obtain ⟨hc, hf⟩ := bcell hb2
  have n0 : w.heap.size < w2.heap.size := by have := hb2.size; simp at this; omega
  obtain ⟨⟨a, b⟩, k⟩ := r
  by_cases hk : k = 0
  · subst hk
    have HR2 := Keep.mk (show (a == m && b == e) = right m e from HR.out)
    unfold numRes
    go_wp2
    go_ret
    exact ⟨ret_bool HR2.out, up (up (al1 _ _) hb2) (al1 _ _)⟩
  · have hkb : (k == 0) = false := by simpa using hk
    have HR2 := Keep.mk (show false = right m e by have := HR.out; rw [if_neg hk] at this; exact this)
    unfold numRes
    go_wp2
    go_ret
    exact ⟨ret_bool HR2.out, up (up (al1 _ _) hb2) (al1 _ _)⟩
end Go.Proofs.YtnkokhpadcgfbaaGreatDoor
namespace Go.Proofs.YtnkokhpadcgfbaaGreatDoor
open Go Go.RowKit Go.Proofs Th
end Go.Proofs.YtnkokhpadcgfbaaGreatDoor
namespace Go.Proofs.YtnkokhpadcgfbaaGreatDoor
open Go Go.RowKit Go.Proofs Th
def Last (l : List UInt8) : Prop := ∀ h : l ≠ [], l.getLast h ≠ 48
theorem Last.tail {x : UInt8} {l : List UInt8} (h : Last (x :: l)) : Last l := by
  intro hl
  have := h (by simp)
  rwa [List.getLast_cons hl] at this
theorem val_pos {l : List UInt8} (hd : AllDig l) (hl : Last l) (h0 : l ≠ []) : 0 < val (dgs l) := by
  have hs : l = l.dropLast ++ [l.getLast h0] := (List.dropLast_concat_getLast h0).symm
  have hx := hl h0
  have hr := hd (l.getLast h0) (List.getLast_mem h0)
  have : (l.getLast h0).toNat ≠ 48 := fun h => hx (UInt8.toNat.inj h)
  rw [hs, dgs_append, show dgs [l.getLast h0] = [dg (l.getLast h0)] from rfl, val_snoc]
  unfold dg
  omega
def padV (l : List UInt8) (n : Nat) : Nat := val (dgs l) * 10 ^ (n - l.length)
theorem padV_cons (x : UInt8) (l : List UInt8) (n : Nat) (h : l.length ≤ n) : padV (x :: l) (n + 1) = dg x * 10 ^ n + padV l n := by
  unfold padV
  rw [show dgs (x :: l) = dg x :: dgs l from rfl, val_cons, dgs_length, List.length_cons, show n + 1 - (l.length + 1) = n - l.length by omega, Nat.add_mul, Nat.mul_assoc, ← Nat.pow_add, show l.length + (n - l.length) = n by omega]
theorem padV_lt (l : List UInt8) (n : Nat) (hd : AllDig l) (h : l.length ≤ n) : padV l n < 10 ^ n := by
  unfold padV
  have := val_lt _ (dgs_all l hd)
  rw [dgs_length] at this
  have h2 : val (dgs l) * 10 ^ (n - l.length) < 10 ^ l.length * 10 ^ (n - l.length) := Nat.mul_lt_mul_of_pos_right this (Nat.pow_pos (by omega))
  rwa [← Nat.pow_add, show l.length + (n - l.length) = n by omega] at h2
theorem padV_pos {l : List UInt8} {n : Nat} (hd : AllDig l) (hl : Last l) (h0 : l ≠ []) : 0 < padV l n := Nat.mul_pos (val_pos hd hl h0) (Nat.pow_pos (by omega))
theorem cmp_lex (a : List UInt8) : ∀ (b : List UInt8) (n : Nat), AllDig a → AllDig b → Last a → Last b → a.length ≤ n → b.length ≤ n → Lib.compareBytes a b = cmp3 (padV a n) (padV b n) := by
  induction a with
  | nil =>
    intro b n _ hb _ lb _ _
    cases b with
    | nil => simp [Lib.compareBytes, cmp3]
    | cons y b =>
      have := padV_pos (n := n) hb lb (by simp)
      have e : padV [] n = 0 := by simp [padV, dgs, val]
      simp only [Lib.compareBytes, cmp3, e]
      rw [if_pos (by omega)]
  | cons x a ih =>
    intro b n ha hb la lb hna hnb
    cases b with
    | nil =>
      have := padV_pos (n := n) ha la (by simp)
      have e : padV [] n = 0 := by simp [padV, dgs, val]
      simp only [Lib.compareBytes, cmp3, e]
      rw [if_neg (by omega), if_pos (by omega)]
    | cons y b =>
      obtain ⟨k, rfl⟩ : ∃ k, n = k + 1 := ⟨n - 1, by simp at hna; omega⟩
      simp only [List.length_cons] at hna hnb
      have hx := ha x (by simp)
      have hy := hb y (by simp)
      have ha' : AllDig a := fun c hc => ha c (by simp [hc])
      have hb' : AllDig b := fun c hc => hb c (by simp [hc])
      have h1 := padV_lt a k ha' (by omega)
      have h2 := padV_lt b k hb' (by omega)
      have hxy : x < y ↔ x.toNat < y.toNat := UInt8.lt_iff_toNat_lt
      have hyx : y < x ↔ y.toNat < x.toNat := UInt8.lt_iff_toNat_lt
      rw [padV_cons _ _ _ (by omega), padV_cons _ _ _ (by omega)]
      have ih' := ih b k ha' hb' la.tail lb.tail (by omega) (by omega)
      generalize padV a k = A at *
      generalize padV b k = B at *
      have step : ∀ p q : Nat, p < q → p * 10 ^ k + 10 ^ k ≤ q * 10 ^ k := by
        intro p q h
        have := Nat.mul_le_mul_right (10 ^ k) (show p + 1 ≤ q from h)
        rwa [Nat.add_mul, Nat.one_mul] at this
      simp only [Lib.compareBytes]
      by_cases c1 : x < y
      · rw [if_pos c1]
        have := step (dg x) (dg y) (by unfold dg; have := hxy.1 c1; omega)
        unfold cmp3; rw [if_pos (by omega)]
      · rw [if_neg c1]
        by_cases c2 : y < x
        · rw [if_pos c2]
          have := step (dg y) (dg x) (by unfold dg; have := hyx.1 c2; omega)
          unfold cmp3; rw [if_neg (by omega), if_pos (by omega)]
        · rw [if_neg c2, ih']
          have : dg x = dg y := by have h3 : ¬ x.toNat < y.toNat := fun h => c1 (hxy.2 h); have h4 : ¬ y.toNat < x.toNat := fun h => c2 (hyx.2 h); unfold dg; omega
          rw [this]
          unfold cmp3
          by_cases d1 : (A : Int) < B
          · rw [if_pos d1, if_pos (by omega)]
          · rw [if_neg d1]
            by_cases d2 : (B : Int) < A
            · rw [if_pos d2, if_neg (by omega), if_pos (by omega)]
            · rw [if_neg d2, if_neg (by omega), if_neg (by omega)]
theorem dec_last (u : Nat) (h : u % 10 ≠ 0) : Last (Lib.decDigits u) := by
  intro hn
  have hs : Lib.decDigits u = (Lib.decDigits u).dropLast ++ [(Lib.decDigits u).getLast hn] := (List.dropLast_concat_getLast hn).symm
  have hv := (dec_all u).2
  rw [hs, dgs_append, show dgs [(Lib.decDigits u).getLast hn] = [dg ((Lib.decDigits u).getLast hn)] from rfl, val_snoc] at hv
  intro h0
  rw [h0, show dg 48 = 0 from rfl] at hv
  omega
def V (m e : Int) : Int := m * (10 ^ (e + 64).toNat : Nat)
def aV (m e : Int) : Nat := m.natAbs * 10 ^ (e + 64).toNat
theorem aV_lt (m e : Int) (he : -64 ≤ e) : aV m e < 10 ^ ((Lib.nDigits m.natAbs : Int) + e + 64).toNat := by
  unfold aV
  have h1 : m.natAbs < 10 ^ Lib.nDigits m.natAbs := Lib.lt_pow_nDigits _
  have h2 : m.natAbs * 10 ^ (e + 64).toNat < 10 ^ Lib.nDigits m.natAbs * 10 ^ (e + 64).toNat := Nat.mul_lt_mul_of_pos_right h1 (Nat.pow_pos (by omega))
  rw [← Nat.pow_add] at h2
  rwa [show ((Lib.nDigits m.natAbs : Int) + e + 64).toNat = Lib.nDigits m.natAbs + (e + 64).toNat by omega]
theorem aV_ge (m e : Int) (hm : m ≠ 0) (he : -64 ≤ e) : 10 ^ (((Lib.nDigits m.natAbs : Int) + e + 64).toNat - 1) ≤ aV m e := by
  unfold aV
  have h1 := nDigits_ge m.natAbs (by omega)
  have h0 := nDigits_one m.natAbs
  have h2 := Nat.mul_le_mul_right (10 ^ (e + 64).toNat) h1
  rw [← Nat.pow_add] at h2
  rwa [show ((Lib.nDigits m.natAbs : Int) + e + 64).toNat - 1 = Lib.nDigits m.natAbs - 1 + (e + 64).toNat by omega]
theorem aV_cmp_far {m1 e1 m2 e2 : Int} (h1 : m1 ≠ 0) (h2 : m2 ≠ 0) (he1 : -64 ≤ e1) (he2 : -64 ≤ e2) (hne : (Lib.nDigits m1.natAbs : Int) + e1 ≠ (Lib.nDigits m2.natAbs : Int) + e2) :
    cmp3 (aV m1 e1) (aV m2 e2) = cmp3 ((Lib.nDigits m1.natAbs : Int) + e1) ((Lib.nDigits m2.natAbs : Int) + e2) := by
  have a1 := aV_lt m1 e1 he1
  have a2 := aV_lt m2 e2 he2
  have b1 := aV_ge m1 e1 h1 he1
  have b2 := aV_ge m2 e2 h2 he2
  have n1 := nDigits_one m1.natAbs
  have n2 := nDigits_one m2.natAbs
  by_cases hlt : (Lib.nDigits m1.natAbs : Int) + e1 < (Lib.nDigits m2.natAbs : Int) + e2
  · have := Nat.pow_le_pow_right (n := 10) (by omega) (show ((Lib.nDigits m1.natAbs : Int) + e1 + 64).toNat ≤ ((Lib.nDigits m2.natAbs : Int) + e2 + 64).toNat - 1 by omega)
    unfold cmp3; rw [if_pos hlt, if_pos (by omega)]
  · have := Nat.pow_le_pow_right (n := 10) (by omega) (show ((Lib.nDigits m2.natAbs : Int) + e2 + 64).toNat ≤ ((Lib.nDigits m1.natAbs : Int) + e1 + 64).toNat - 1 by omega)
    unfold cmp3; rw [if_neg hlt, if_neg (by omega), if_pos (by omega), if_pos (by omega)]
theorem aV_pad (m e : Int) (he : -64 ≤ e) : aV m e = padV (Lib.decDigits m.natAbs) ((Lib.nDigits m.natAbs : Int) + e + 64).toNat := by
  unfold aV padV
  rw [(dec_all _).2, Lib.decDigits_length]
  congr 2; omega
theorem aV_cmp_near {m1 e1 m2 e2 : Int} (h1 : m1.natAbs % 10 ≠ 0) (h2 : m2.natAbs % 10 ≠ 0) (he1 : -64 ≤ e1) (he2 : -64 ≤ e2) (hne : (Lib.nDigits m1.natAbs : Int) + e1 = (Lib.nDigits m2.natAbs : Int) + e2) :
    cmp3 (aV m1 e1) (aV m2 e2) = Lib.compareBytes (Lib.decDigits m1.natAbs) (Lib.decDigits m2.natAbs) := by
  rw [aV_pad m1 e1 he1, aV_pad m2 e2 he2, hne]
  refine (cmp_lex _ _ _ (dec_all _).1 (dec_all _).1 (dec_last _ h1) (dec_last _ h2) ?_ ?_).symm
  · rw [Lib.decDigits_length]; omega
  · rw [Lib.decDigits_length]; omega
theorem V_pos {m e : Int} (h : 0 ≤ m) : V m e = aV m e := by
  unfold V aV; rw [Int.natCast_mul]; congr 1; omega
theorem V_neg {m e : Int} (h : m ≤ 0) : V m e = -(aV m e : Int) := by
  unfold V aV; rw [Int.natCast_mul, ← Int.neg_mul]; congr 1; omega
theorem aV_pos {m e : Int} (h : m ≠ 0) : 0 < aV m e := Nat.mul_pos (by omega) (Nat.pow_pos (by omega))
theorem cmp3_neg (a b : Int) : cmp3 (-a) (-b) = -1 * cmp3 a b := by
  unfold cmp3
  by_cases h : a < b
  · rw [if_neg (by omega), if_pos (by omega), if_pos h]; rfl
  · by_cases h2 : b < a
    · rw [if_pos (by omega), if_neg h, if_pos h2]; rfl
    · rw [if_neg (by omega), if_neg (by omega), if_neg h, if_neg h2]; rfl
theorem cmpS_V {m1 e1 m2 e2 : Int} (h1 : right m1 e1 = true) (h2 : right m2 e2 = true) : cmpS m1 e1 m2 e2 = cmp3 (V m1 e1) (V m2 e2) := by
  have x1 := right_exp h1
  have x2 := right_exp h2
  unfold cmpS
  have near := fun (n1 : m1 ≠ 0) (n2 : m2 ≠ 0) => aV_cmp_near (right_spec h1 n1).2.1 (right_spec h2 n2).2.1 x1.1 x2.1
  have far := fun (n1 : m1 ≠ 0) (n2 : m2 ≠ 0) => aV_cmp_far n1 n2 x1.1 x2.1
  have p1 := fun (n1 : m1 ≠ 0) => aV_pos (e := e1) n1
  have p2 := fun (n2 : m2 ≠ 0) => aV_pos (e := e2) n2
  have z1 : m1 = 0 → V m1 e1 = 0 := fun h => by subst h; simp [V]
  have z2 : m2 = 0 → V m2 e2 = 0 := fun h => by subst h; simp [V]
  rcases Int.lt_trichotomy m1 0 with c1 | c1 | c1 <;> rcases Int.lt_trichotomy m2 0 with c2 | c2 | c2
  · have s1 := Int.sign_eq_neg_one_of_neg c1
    have s2 := Int.sign_eq_neg_one_of_neg c2
    rw [s1, s2, if_neg (by omega), V_neg (by omega), V_neg (by omega), cmp3_neg]
    split
    · rename_i h; rw [far (by omega) (by omega) h]; rfl
    · rename_i h; rw [near (by omega) (by omega) (by unfold nd at h; omega)]
  · have s1 := Int.sign_eq_neg_one_of_neg c1
    have := p1 (by omega)
    rw [z2 c2, c2, s1, if_pos (by decide), V_neg (by omega)]
    unfold cmp3; rw [if_pos (by decide), if_pos (by omega)]
  · have s1 := Int.sign_eq_neg_one_of_neg c1
    have s2 := Int.sign_eq_one_of_pos c2
    have := p1 (by omega)
    have := p2 (by omega)
    rw [s1, s2, if_pos (by omega), V_neg (by omega), V_pos (by omega)]
    unfold cmp3; rw [if_pos (by decide), if_pos (by omega)]
  · have s2 := Int.sign_eq_neg_one_of_neg c2
    have := p2 (by omega)
    rw [z1 c1, c1, s2, if_pos (by decide), V_neg (by omega)]
    unfold cmp3; rw [if_neg (by decide), if_pos (by decide), if_neg (by omega), if_pos (by omega)]
  · rw [z1 c1, z2 c2, c1, c2, if_pos (by decide)]; rfl
  · have s2 := Int.sign_eq_one_of_pos c2
    have := p2 (by omega)
    rw [z1 c1, c1, s2, if_pos (by decide), V_pos (by omega)]
    unfold cmp3; rw [if_pos (by decide), if_pos (by omega)]
  · have s1 := Int.sign_eq_one_of_pos c1
    have s2 := Int.sign_eq_neg_one_of_neg c2
    have := p1 (by omega)
    have := p2 (by omega)
    rw [s1, s2, if_pos (by omega), V_pos (by omega), V_neg (by omega)]
    unfold cmp3; rw [if_neg (by decide), if_pos (by decide), if_neg (by omega), if_pos (by omega)]
  · have s1 := Int.sign_eq_one_of_pos c1
    have := p1 (by omega)
    rw [z2 c2, c2, s1, if_pos (by decide), V_pos (by omega)]
    unfold cmp3; rw [if_neg (by decide), if_pos (by decide), if_neg (by omega), if_pos (by omega)]
  · have s1 := Int.sign_eq_one_of_pos c1
    have s2 := Int.sign_eq_one_of_pos c2
    rw [s1, s2, if_neg (by omega), V_pos (by omega), V_pos (by omega)]
    split
    · rename_i h; rw [Int.one_mul, far (by omega) (by omega) h]; rfl
    · rename_i h; rw [Int.one_mul, near (by omega) (by omega) (by unfold nd at h; omega)]
theorem V_sign {m e : Int} : V m e < 0 ↔ m < 0 := by
  have hp : (0 : Int) < ((10 ^ (e + 64).toNat : Nat) : Int) := by have := Nat.pow_pos (n := (e + 64).toNat) (show 0 < 10 by omega); omega
  unfold V
  constructor
  · intro h
    by_cases h' : m < 0
    · exact h'
    · have := Int.mul_nonneg (show 0 ≤ m by omega) (Int.le_of_lt hp); omega
  · intro h; exact Int.mul_neg_of_neg_of_pos h hp
theorem cmp3_antisymm (a b : Int) : cmp3 a b = - cmp3 b a := by
  unfold cmp3
  by_cases h : a < b
  · rw [if_pos h, if_neg (by omega), if_pos h]
  · by_cases h2 : b < a
    · rw [if_neg h, if_pos h2, if_pos h2]; rfl
    · rw [if_neg h, if_neg h2, if_neg h2, if_neg h]; rfl
theorem cmp3_lt {a b : Int} : cmp3 a b < 0 ↔ a < b := by
  unfold cmp3
  by_cases h : a < b
  · rw [if_pos h]; omega
  · by_cases h2 : b < a
    · rw [if_neg h, if_pos h2]; omega
    · rw [if_neg h, if_neg h2]; omega
end Go.Proofs.YtnkokhpadcgfbaaGreatDoor
namespace Go.Proofs.YtnkokhpadcgfbaaGreatDoor
open Go Go.RowKit Go.Proofs Th
end Go.Proofs.YtnkokhpadcgfbaaGreatDoor
