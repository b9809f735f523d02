/- Plain law on JSON's texts as they are read: texts in quotes, tokens. No conditions: it imports no program. -/
import Derived.Test.YtohhnkmfgfgpjaaGreatDoorValMath
namespace Th
open Go Go.Lib

/-- a digit to the base 16 -/
def hexV (c : UInt8) : Option Nat := if 48 ≤ c.toNat ∧ c.toNat ≤ 57 then some (c.toNat - 48) else if 97 ≤ c.toNat ∧ c.toNat ≤ 102 then some (c.toNat - 87) else if 65 ≤ c.toNat ∧ c.toNat ≤ 70 then some (c.toNat - 55) else none
theorem hexV_lt {c : UInt8} {x : Nat} (h : hexV c = some x) : x < 16 := by
  unfold hexV at h
  repeat' split at h
  all_goals first | (cases h; done) | (injection h with h; omega)
/-- n digits more -/
def hexGo : Nat → List UInt8 → Nat → Option Nat
  | 0, _, r => some r
  | _ + 1, [], _ => none
  | n + 1, c :: l, r => match hexV c with | some x => hexGo n l (r * 16 + x) | none => none
def fourV (l : List UInt8) : Option Nat := hexGo 4 l 0
theorem hexGo_lt : ∀ (n : Nat) (l : List UInt8) (r x : Nat), hexGo n l r = some x → x < (r + 1) * 16 ^ n
  | 0, _, r, x, h => by injection h with h; omega
  | n + 1, [], _, _, h => by cases h
  | n + 1, c :: l, r, x, h => by
    simp only [hexGo] at h
    cases hc : hexV c with
    | none => rw [hc] at h; cases h
    | some y =>
      rw [hc] at h
      have h1 := hexGo_lt n l _ x h
      have h2 := hexV_lt hc
      rw [Nat.pow_succ]
      have : (r * 16 + y + 1) * 16 ^ n ≤ (r + 1) * 16 * 16 ^ n := Nat.mul_le_mul_right _ (by omega)
      rw [Nat.mul_assoc, Nat.mul_comm 16] at this
      omega
theorem fourV_lt {l : List UInt8} {x : Nat} (h : fourV l = some x) : x < 65536 := by
  have := hexGo_lt 4 l 0 x h; omega
theorem hexGo_short : ∀ (n : Nat) (l : List UInt8) (r : Nat), l.length < n → hexGo n l r = none
  | 0, _, _, h => by omega
  | _ + 1, [], _, _ => rfl
  | n + 1, c :: l, r, h => by
    simp only [hexGo]
    cases hexV c with
    | none => rfl
    | some y => exact hexGo_short n l _ (by simpa using h)
theorem fourV_len {l : List UInt8} {x : Nat} (h : fourV l = some x) : 4 ≤ l.length := by
  rcases Nat.lt_or_ge l.length 4 with h1 | h1
  · have := hexGo_short 4 l 0 h1; unfold fourV at h; rw [this] at h; cases h
  · exact h1
theorem hexGo_step (n : Nat) (l : List UInt8) (i : Nat) (r : Nat) (h : i < l.length) : hexGo (n + 1) (l.drop i) r = match hexV l[i] with | some x => hexGo n (l.drop (i + 1)) (r * 16 + x) | none => none := by
  rw [List.drop_eq_getElem_cons h]; rfl
/-- what stands behind a backslash and u: the character, and how many bytes that is -/
def uniV (l : List UInt8) : Option (Nat × Nat) := match fourV l with
  | none => none
  | some a => if 56320 ≤ a ∧ a < 57344 then none else if a < 55296 ∨ 57344 ≤ a then some (a, 4)
    else if l.getD 4 0 = 92 ∧ l.getD 5 0 = 117 then (match fourV (l.drop 6) with
      | none => none
      | some b => if b < 56320 ∨ 57344 ≤ b then none else some (65536 + (a - 55296) * 1024 + (b - 56320), 10)) else none
/-- what stands behind a backslash -/
def escV : List UInt8 → Option (Nat × Nat)
  | [] => none
  | c :: r => if c = 34 ∨ c = 92 ∨ c = 47 then some (c.toNat, 1) else if c = 98 then some (8, 1) else if c = 102 then some (12, 1) else if c = 110 then some (10, 1) else if c = 114 then some (13, 1) else if c = 116 then some (9, 1)
    else if c = 117 then (match uniV r with | none => none | some (x, n) => some (x, n + 1)) else none
theorem uniV_ok {l : List UInt8} {x n : Nat} (h : uniV l = some (x, n)) : (x < 55296 ∨ (57343 < x ∧ x ≤ 1114111)) ∧ n ≤ l.length ∧ n ≤ 10 := by
  unfold uniV at h
  cases ha : fourV l with
  | none => rw [ha] at h; cases h
  | some a =>
    have h4 := fourV_len ha
    have hl := fourV_lt ha
    simp only [ha] at h
    split at h
    · cases h
    · split at h
      · injection h with h; injection h with h1 h2; subst h1 h2; omega
      · split at h
        · cases hb : fourV (l.drop 6) with
          | none => rw [hb] at h; cases h
          | some b =>
            have h5 := fourV_len hb
            have h6 := fourV_lt hb
            rw [List.length_drop] at h5
            simp only [hb] at h
            split at h
            · cases h
            · injection h with h; injection h with h1 h2; subst h1 h2; omega
        · cases h
theorem escV_ok {l : List UInt8} {x n : Nat} (h : escV l = some (x, n)) : (x < 55296 ∨ (57343 < x ∧ x ≤ 1114111)) ∧ 1 ≤ n ∧ n ≤ l.length ∧ n ≤ 11 := by
  cases l with
  | nil => cases h
  | cons c r =>
    have := c.toNat_lt
    simp only [escV] at h
    repeat' split at h
    all_goals first
      | (cases h; done)
      | (injection h with h; injection h with h1 h2; subst h1 h2; rw [List.length_cons]; omega)
      | skip
    rename_i x' n' hu
    injection h with h; injection h with h1 h2; subst h1 h2
    have := uniV_ok hu
    rw [List.length_cons]; omega
/-- the rest of a text behind its first quote: its bytes, and how many bytes were read -/
def readB : Nat → List UInt8 → Option (List UInt8 × Nat)
  | 0, _ => none
  | _ + 1, [] => none
  | f + 1, c :: r => if c = 34 then some ([], 1) else if c.toNat < 32 then none
    else if c = 92 then (match escV r with
      | none => none
      | some (x, n) => (readB f (r.drop n)).map fun p => (encodeRune x ++ p.1, p.2 + n + 1))
    else if badD (c :: r) then none else (readB f ((c :: r).drop (decodeL (c :: r)).2)).map fun p => ((c :: r).take (decodeL (c :: r)).2 ++ p.1, p.2 + (decodeL (c :: r)).2)
def bodyV (l : List UInt8) : Option (List UInt8 × Nat) := readB l.length l
theorem readB_fuel : ∀ (f g : Nat) (l : List UInt8), l.length ≤ f → l.length ≤ g → readB f l = readB g l
  | 0, 0, _, _, _ => rfl
  | 0, g + 1, l, h, _ => by
    obtain rfl : l = [] := List.eq_nil_of_length_eq_zero (by omega)
    rfl
  | f + 1, 0, l, _, h => by
    obtain rfl : l = [] := List.eq_nil_of_length_eq_zero (by omega)
    rfl
  | f + 1, g + 1, [], _, _ => rfl
  | f + 1, g + 1, c :: r, hf, hg => by
    rw [List.length_cons] at hf hg
    have hw := decodeL_width (c :: r)
    simp only [readB]
    rw [readB_fuel f g ((c :: r).drop (decodeL (c :: r)).2) (by rw [List.length_drop, List.length_cons]; omega) (by rw [List.length_drop, List.length_cons]; omega)]
    cases he : escV r with
    | none => rfl
    | some p =>
      obtain ⟨x, n⟩ := p
      have := escV_ok he
      simp only
      rw [readB_fuel f g (r.drop n) (by rw [List.length_drop]; omega) (by rw [List.length_drop]; omega)]
theorem bodyV_nil : bodyV [] = none := rfl
theorem bodyV_cons (c : UInt8) (r : List UInt8) : bodyV (c :: r) = if c = 34 then some ([], 1) else if c.toNat < 32 then none
    else if c = 92 then (match escV r with
      | none => none
      | some (x, n) => (bodyV (r.drop n)).map fun p => (encodeRune x ++ p.1, p.2 + n + 1))
    else if badD (c :: r) then none else (bodyV ((c :: r).drop (decodeL (c :: r)).2)).map fun p => ((c :: r).take (decodeL (c :: r)).2 ++ p.1, p.2 + (decodeL (c :: r)).2) := by
  unfold bodyV
  have hw := decodeL_width (c :: r)
  rw [List.length_cons]
  simp only [readB]
  rw [readB_fuel r.length _ ((c :: r).drop (decodeL (c :: r)).2) (by rw [List.length_drop, List.length_cons]; omega) (Nat.le_refl _)]
  cases he : escV r with
  | none => rfl
  | some p =>
    obtain ⟨x, n⟩ := p
    have := escV_ok he
    simp only
    rw [readB_fuel r.length _ (r.drop n) (by rw [List.length_drop]; omega) (Nat.le_refl _)]
theorem bodyV_ok : ∀ (f : Nat) (l : List UInt8), l.length ≤ f → ∀ t k, bodyV l = some (t, k) → 1 ≤ k ∧ k ≤ l.length ∧ t.length ≤ 4 * l.length := by
  intro f
  induction f with
  | zero => intro l h t k hb; obtain rfl : l = [] := List.eq_nil_of_length_eq_zero (by omega); cases hb
  | succ f ih =>
    intro l hl t k hb
    cases l with
    | nil => cases hb
    | cons c r =>
      have hw := decodeL_width (c :: r)
      have hle := decodeL_le (c :: r) (by simp)
      rw [bodyV_cons] at hb
      rw [List.length_cons] at hl hle ⊢
      split at hb
      · injection hb with hb; injection hb with h1 h2; subst h1 h2; simp
      · split at hb
        · cases hb
        · split at hb
          · cases he : escV r with
            | none => rw [he] at hb; cases hb
            | some p =>
              obtain ⟨x, n⟩ := p
              have h0 := escV_ok he
              rw [he] at hb
              simp only at hb
              cases hq : bodyV (r.drop n) with
              | none => rw [hq] at hb; cases hb
              | some q =>
                obtain ⟨t', k'⟩ := q
                rw [hq] at hb
                injection hb with hb; injection hb with h1 h2; subst h1 h2
                have := ih (r.drop n) (by rw [List.length_drop]; omega) t' k' hq
                rw [List.length_drop] at this
                have h9 := encodeRune_le (x : Int)
                show 1 ≤ k' + n + 1 ∧ _ ∧ (encodeRune (x : Int) ++ t').length ≤ _
                rw [List.length_append]
                omega
          · split at hb
            · cases hb
            · cases hq : bodyV ((c :: r).drop (decodeL (c :: r)).2) with
              | none => rw [hq] at hb; cases hb
              | some q =>
                obtain ⟨t', k'⟩ := q
                rw [hq] at hb
                injection hb with hb; injection hb with h1 h2; subst h1 h2
                have := ih ((c :: r).drop (decodeL (c :: r)).2) (by rw [List.length_drop, List.length_cons]; omega) t' k' hq
                rw [List.length_drop, List.length_cons] at this
                show 1 ≤ k' + _ ∧ k' + _ ≤ _ ∧ (List.take _ _ ++ t').length ≤ _
                rw [List.length_append, List.length_take, List.length_cons]
                omega
/-- a text in quotes: its bytes, how many bytes were read, what is wrong -/
def readQ (l : List UInt8) : List UInt8 × Nat × Int := match l with
  | [] => ([], 0, 20)
  | c :: r => if c = 34 then (match bodyV r with | some (t, k) => (t, k + 1, 0) | none => ([], 0, 20)) else ([], 0, 20)
end Th
