/- Lemmas and contracts for the laws CalcWith, part 4 of 50: ValMath. Conditions: those that each lemma names. -/
import Derived.Test.YtnkokhpadcgfbaaGreatDoorPw1
import Derived.Lib.ValidU
import Derived.Lib.MapLaws
import GoSem.Op.String
namespace Th
open Go Go.Lib
theorem size_listU (s : ByteArray) : s.data.toList.length = s.size := by simp
def charS (c : Int) : List UInt8 := if c < 0 ∨ 1114111 < c ∨ (55296 ≤ c ∧ c ≤ 57343) then [] else encodeRune c
theorem charS_bad {c : Int} (h : c < 0 ∨ 1114111 < c ∨ (55296 ≤ c ∧ c ≤ 57343)) : charS c = [] := by unfold charS; rw [if_pos h]
theorem charS_one {c : Int} (h0 : 0 ≤ c) (h1 : c < 128) : charS c = [c.toNat.toUInt8] := by
  unfold charS encodeRune; rw [if_neg (by omega), encodeRuneZ_one h0 (by omega)]; rfl
theorem charS_two {c : Int} (h0 : 128 ≤ c) (h1 : c < 2048) : charS c = [(192 + c / 64).toNat.toUInt8, (128 + c % 64).toNat.toUInt8] := by
  unfold charS encodeRune; rw [if_neg (by omega), encodeRuneZ_two h0 (by omega)]; rfl
theorem charS_three {c : Int} (h0 : 2048 ≤ c) (h1 : c < 65536) (h2 : c < 55296 ∨ 57343 < c) : charS c = [(224 + c / 4096).toNat.toUInt8, (128 + c / 64 % 64).toNat.toUInt8, (128 + c % 64).toNat.toUInt8] := by
  unfold charS encodeRune; rw [if_neg (by omega), encodeRuneZ_three (by omega)]; rfl
theorem charS_four {c : Int} (h0 : 65536 ≤ c) (h1 : c ≤ 1114111) : charS c = [(240 + c / 262144).toNat.toUInt8, (128 + c / 4096 % 64).toNat.toUInt8, (128 + c / 64 % 64).toNat.toUInt8, (128 + c % 64).toNat.toUInt8] := by
  unfold charS encodeRune; rw [if_neg (by omega), encodeRuneZ_four h0 h1]; rfl
def badD (l : List UInt8) : Prop := (decodeL l).1 = 65533 ∧ (decodeL l).2 = 1
instance (l : List UInt8) : Decidable (badD l) := by unfold badD; infer_instance
def firstS (l : List UInt8) : Nat × Nat := if l = [] ∨ badD l then (0, 0) else decodeL l
def candS (l : List UInt8) (n : Nat) : Int :=
  match n with
  | 1 => (l.getD 0 0).toNat
  | 2 => ((l.getD 0 0).toNat - 192) * 64 + (l.getD 1 0).toNat - 128
  | 3 => (((l.getD 0 0).toNat - 224) * 64 + (l.getD 1 0).toNat - 128) * 64 + (l.getD 2 0).toNat - 128
  | _ => ((((l.getD 0 0).toNat - 240) * 64 + (l.getD 1 0).toNat - 128) * 64 + (l.getD 2 0).toNat - 128) * 64 + (l.getD 3 0).toNat - 128
theorem byteN {z : Int} (h0 : 0 ≤ z) (h1 : z < 256) {x : UInt8} (h : z.toNat.toUInt8 = x) : z = (x.toNat : Int) := by
  subst h
  have : z.toNat.toUInt8.toNat = z.toNat := by
    show (UInt8.ofNat z.toNat).toNat = z.toNat
    simp; omega
  rw [this]; omega
theorem cand_iff (l : List UInt8) (n : Nat) (h1 : 1 ≤ n) (h4 : n ≤ 4) (hl : n ≤ l.length) : charS (candS l n) = l.take n ↔ (¬ badD l ∧ (decodeL l).2 = n) := by
  have k0 := (l.getD 0 0).toNat_lt
  have k1 := (l.getD 1 0).toNat_lt
  have k2 := (l.getD 2 0).toNat_lt
  have k3 := (l.getD 3 0).toNat_lt
  have hne : l ≠ [] := by rintro rfl; simp at hl; omega
  constructor
  · intro h
    unfold badD
    rw [decodeL_N]
    have hn : n = 1 ∨ n = 2 ∨ n = 3 ∨ n = 4 := by omega
    have hcs : (candS l n < 0 ∨ 1114111 < candS l n ∨ (55296 ≤ candS l n ∧ candS l n ≤ 57343)) ∨ (0 ≤ candS l n ∧ candS l n < 128) ∨ (128 ≤ candS l n ∧ candS l n < 2048) ∨ (2048 ≤ candS l n ∧ candS l n < 65536 ∧ (candS l n < 55296 ∨ 57343 < candS l n)) ∨ (65536 ≤ candS l n ∧ candS l n ≤ 1114111) := by omega
    have hlen : (charS (candS l n)).length = n := by rw [h, List.length_take]; omega
    rcases hcs with hc | ⟨ha, hb⟩ | ⟨ha, hb⟩ | ⟨ha, hb, hc⟩ | ⟨ha, hb⟩
    · rw [charS_bad hc] at hlen; simp at hlen; omega
    · rw [charS_one ha hb] at hlen h
      obtain rfl : n = 1 := by simpa using hlen.symm
      rw [takeA l (by omega)] at h
      injection h with e0
      have e0 := byteN ha (by omega) e0
      have : (l.getD 0 0).toNat < 128 := by omega
      rw [show decodeN l.length (l.getD 0 0).toNat (l.getD 1 0).toNat (l.getD 2 0).toNat (l.getD 3 0).toNat = ((l.getD 0 0).toNat, 1) by unfold decodeN; rw [if_pos this]]
      exact ⟨fun h => by have := h.1; dsimp only at this; omega, rfl⟩
    · rw [charS_two ha hb] at hlen h
      obtain rfl : n = 2 := by simpa using hlen.symm
      rw [takeB l (by omega)] at h
      injection h with e0 h; injection h with e1 h
      have e0 := byteN (by omega) (by omega) e0
      have e1 := byteN (by omega) (by omega) e1
      simp only [candS] at e0 e1 ha hb
      rcases decodeN_shape l.length (l.getD 0 0).toNat (l.getD 1 0).toNat (l.getD 2 0).toNat (l.getD 3 0).toNat with ⟨c, e⟩ | ⟨c1, c2, c3, cv, e⟩ | ⟨c1, c2, c3, c4, cv, cs, e⟩ | ⟨c1, c2, c3, c4, c5, cv, cw, e⟩ | e
      · omega
      · rw [e]; exact ⟨fun h => by have := h.2; dsimp only at this; omega, rfl⟩
      · omega
      · omega
      · exfalso
        unfold decodeN at e
        rw [if_neg (by omega), if_pos (by omega), if_pos (by omega)] at e
        injection e with e e2; omega
    · rw [charS_three ha hb hc] at hlen h
      obtain rfl : n = 3 := by simpa using hlen.symm
      rw [takeC l (by omega)] at h
      injection h with e0 h; injection h with e1 h; injection h with e2 h
      have e0 := byteN (by omega) (by omega) e0
      have e1 := byteN (by omega) (by omega) e1
      have e2 := byteN (by omega) (by omega) e2
      simp only [candS] at e0 e1 e2 ha hb hc
      rcases decodeN_shape l.length (l.getD 0 0).toNat (l.getD 1 0).toNat (l.getD 2 0).toNat (l.getD 3 0).toNat with ⟨c, e⟩ | ⟨c1, c2, c3, cv, e⟩ | ⟨c1, c2, c3, c4, cv, cs, e⟩ | ⟨c1, c2, c3, c4, c5, cv, cw, e⟩ | e
      · omega
      · omega
      · rw [e]; exact ⟨fun h => by have := h.2; dsimp only at this; omega, rfl⟩
      · omega
      · exfalso
        unfold decodeN at e
        rw [if_neg (by omega), if_neg (by omega), if_pos (by omega), if_pos (by omega)] at e
        injection e with e e2; omega
    · rw [charS_four ha hb] at hlen h
      obtain rfl : n = 4 := by simpa using hlen.symm
      rw [takeD l (by omega)] at h
      injection h with e0 h; injection h with e1 h; injection h with e2 h; injection h with e3 h
      have e0 := byteN (by omega) (by omega) e0
      have e1 := byteN (by omega) (by omega) e1
      have e2 := byteN (by omega) (by omega) e2
      have e3 := byteN (by omega) (by omega) e3
      simp only [candS] at e0 e1 e2 e3 ha hb
      rcases decodeN_shape l.length (l.getD 0 0).toNat (l.getD 1 0).toNat (l.getD 2 0).toNat (l.getD 3 0).toNat with ⟨c, e⟩ | ⟨c1, c2, c3, cv, e⟩ | ⟨c1, c2, c3, c4, cv, cs, e⟩ | ⟨c1, c2, c3, c4, c5, cv, cw, e⟩ | e
      · omega
      · omega
      · omega
      · rw [e]; exact ⟨fun h => by have := h.2; dsimp only at this; omega, rfl⟩
      · exfalso
        unfold decodeN at e
        rw [if_neg (by omega), if_neg (by omega), if_neg (by omega), if_pos (by omega), if_pos (by omega)] at e
        injection e with e e2; omega
  · rintro ⟨hb, hn⟩
    have he := encode_decode l hne hb
    have key : candS l n = ((decodeL l).1 : Int) ∧ ¬ (((decodeL l).1 : Int) < 0 ∨ 1114111 < ((decodeL l).1 : Int) ∨ (55296 ≤ ((decodeL l).1 : Int) ∧ ((decodeL l).1 : Int) ≤ 57343)) := by
      unfold badD at hb
      rw [decodeL_N] at hb hn ⊢
      rcases decodeN_shape l.length (l.getD 0 0).toNat (l.getD 1 0).toNat (l.getD 2 0).toNat (l.getD 3 0).toNat with ⟨c, e⟩ | ⟨c1, c2, c3, cv, e⟩ | ⟨c1, c2, c3, c4, cv, cs, e⟩ | ⟨c1, c2, c3, c4, c5, cv, cw, e⟩ | e
      all_goals (rw [e] at hb hn ⊢; dsimp only at hb hn ⊢; subst hn)
      · exact ⟨rfl, by omega⟩
      · simp only [candS]; omega
      · simp only [candS]; omega
      · simp only [candS]; omega
      · exact absurd ⟨rfl, rfl⟩ hb
    rw [key.1]
    unfold charS
    rw [if_neg key.2, he, hn]
theorem cand_val (l : List UInt8) (n : Nat) (hn : (decodeL l).2 = n) (hb : ¬ badD l) : candS l n = ((decodeL l).1 : Int) := by
  have k0 := (l.getD 0 0).toNat_lt
  have k1 := (l.getD 1 0).toNat_lt
  have k2 := (l.getD 2 0).toNat_lt
  have k3 := (l.getD 3 0).toNat_lt
  unfold badD at hb
  rw [decodeL_N] at hb hn ⊢
  rcases decodeN_shape l.length (l.getD 0 0).toNat (l.getD 1 0).toNat (l.getD 2 0).toNat (l.getD 3 0).toNat with ⟨c, e⟩ | ⟨c1, c2, c3, cv, e⟩ | ⟨c1, c2, c3, c4, cv, cs, e⟩ | ⟨c1, c2, c3, c4, c5, cv, cw, e⟩ | e
  all_goals (rw [e] at hb hn ⊢; dsimp only at hb hn ⊢; subst hn)
  · rfl
  · simp only [candS]; omega
  · simp only [candS]; omega
  · simp only [candS]; omega
  · exact absurd ⟨rfl, rfl⟩ hb
theorem width_four (l : List UInt8) : (decodeL l).2 ≤ 4 := by
  rw [decodeL_N]
  rcases decodeN_shape l.length (l.getD 0 0).toNat (l.getD 1 0).toNat (l.getD 2 0).toNat (l.getD 3 0).toNat with ⟨c, e⟩ | ⟨c1, c2, c3, cv, e⟩ | ⟨c1, c2, c3, c4, cv, cs, e⟩ | ⟨c1, c2, c3, c4, c5, cv, cw, e⟩ | e
  all_goals (rw [e]; dsimp only; omega)
/-! texts, character by character -/
theorem validGoD_fuel : ∀ (n m : Nat) (l : List UInt8), l.length ≤ n → l.length ≤ m → validGoD n l = validGoD m l
  | 0, m, l, hn, _ => by
    have : l = [] := List.eq_nil_of_length_eq_zero (by omega)
    subst this
    cases m <;> simp [validGoD]
  | n + 1, 0, l, _, hm => by
    have : l = [] := List.eq_nil_of_length_eq_zero (by omega)
    subst this
    simp [validGoD]
  | n + 1, m + 1, l, hn, hm => by
    by_cases hne : l = []
    · subst hne; simp [validGoD]
    · have hw := decodeL_width l
      have hl : 0 < l.length := List.length_pos_iff.2 hne
      simp only [validGoD, if_neg hne]
      rw [validGoD_fuel n m _ (by rw [List.length_drop]; omega) (by rw [List.length_drop]; omega)]
theorem validD_nil : validD [] = true := rfl
theorem validD_step (l : List UInt8) (hne : l ≠ []) : validD l = if badD l then false else validD (l.drop (decodeL l).2) := by
  have hw := decodeL_width l
  have hl : 0 < l.length := List.length_pos_iff.2 hne
  unfold validD badD
  obtain ⟨n, hn⟩ : ∃ n, l.length = n + 1 := ⟨l.length - 1, by omega⟩
  rw [hn]
  simp only [validGoD, if_neg hne]
  rw [validGoD_fuel n _ _ (by rw [List.length_drop]; omega) (Nat.le_refl _)]
def hexS (n : Nat) : UInt8 := if n < 10 then UInt8.ofNat (48 + n) else UInt8.ofNat (87 + n)
def escS (c : Nat) : List UInt8 :=
  if c = 34 ∨ c = 92 then [92, UInt8.ofNat c]
  else if c = 8 then [92, 98] else if c = 9 then [92, 116] else if c = 10 then [92, 110] else if c = 12 then [92, 102] else if c = 13 then [92, 114]
  else if c < 32 then [92, 117, 48, 48, hexS (c / 16), hexS (c % 16)]
  else encodeRune c
def bodyGoD : Nat → List UInt8 → List UInt8
  | 0, _ => []
  | n + 1, l => if l = [] then [] else escS (decodeL l).1 ++ bodyGoD n (l.drop (decodeL l).2)
def bodyD (l : List UInt8) : List UInt8 := bodyGoD l.length l
theorem bodyGoD_fuel : ∀ (n m : Nat) (l : List UInt8), l.length ≤ n → l.length ≤ m → bodyGoD n l = bodyGoD m l
  | 0, m, l, hn, _ => by
    have : l = [] := List.eq_nil_of_length_eq_zero (by omega)
    subst this
    cases m <;> simp [bodyGoD]
  | n + 1, 0, l, _, hm => by
    have : l = [] := List.eq_nil_of_length_eq_zero (by omega)
    subst this
    simp [bodyGoD]
  | n + 1, m + 1, l, hn, hm => by
    by_cases hne : l = []
    · subst hne; simp [bodyGoD]
    · have hw := decodeL_width l
      have hl : 0 < l.length := List.length_pos_iff.2 hne
      simp only [bodyGoD, if_neg hne]
      rw [bodyGoD_fuel n m _ (by rw [List.length_drop]; omega) (by rw [List.length_drop]; omega)]
theorem bodyD_nil : bodyD [] = [] := rfl
theorem bodyD_step (l : List UInt8) (hne : l ≠ []) : bodyD l = escS (decodeL l).1 ++ bodyD (l.drop (decodeL l).2) := by
  have hw := decodeL_width l
  have hl : 0 < l.length := List.length_pos_iff.2 hne
  unfold bodyD
  obtain ⟨n, hn⟩ : ∃ n, l.length = n + 1 := ⟨l.length - 1, by omega⟩
  rw [hn]
  simp only [bodyGoD, if_neg hne]
  rw [bodyGoD_fuel n _ _ (by rw [List.length_drop]; omega) (Nat.le_refl _)]
theorem encodeRune_le (r : Int) : (encodeRune r).length ≤ 4 := by
  unfold encodeRune encodeRuneZ
  rw [List.length_map]
  repeat' split
  all_goals simp
theorem escS_le (c : Nat) : (escS c).length ≤ 6 := by
  unfold escS
  have := encodeRune_le (c : Int)
  repeat' split
  all_goals first | (simp; done) | omega
theorem bodyD_le (l : List UInt8) : (bodyD l).length ≤ 6 * l.length := by
  suffices ∀ n (l : List UInt8), (bodyGoD n l).length ≤ 6 * l.length by exact this _ _
  intro n
  induction n with
  | zero => intro l; simp [bodyGoD]
  | succ n ih =>
    intro l
    unfold bodyGoD
    split
    · simp
    · rename_i hne
      have hw := decodeL_width l
      have hl : 0 < l.length := List.length_pos_iff.2 hne
      have h1 := ih (l.drop (decodeL l).2)
      have h2 := escS_le (decodeL l).1
      have h3 := decodeL_le l hne
      rw [List.length_append]
      rw [List.length_drop] at h1
      omega
def quoteD (l : List UInt8) : List UInt8 := 34 :: bodyD l ++ [34]
end Th
namespace Th
open Go Go.Lib
inductive JV where
  | mk (k m e : Int) (s : ByteArray) (l : List JV) (ks : List ByteArray)
def keysN : List ByteArray → Nat
  | [] => 0
  | k :: r => 1 + k.size + keysN r
mutual
/-- how many values and bytes it has -/
def sizeJ : JV → Nat
  | .mk _ _ _ s l ks => 1 + s.size + keysN ks + sizeL l
def sizeL : List JV → Nat
  | [] => 0
  | v :: r => sizeJ v + sizeL r
end
mutual
def depthJ : JV → Nat
  | .mk _ _ _ _ l _ => 1 + depthL l
def depthL : List JV → Nat
  | [] => 0
  | v :: r => max (depthJ v) (depthL r)
end
mutual
def countJ : JV → Nat
  | .mk _ _ _ _ l _ => 1 + countL l
def countL : List JV → Nat
  | [] => 0
  | v :: r => countJ v + countL r
end
def riseK : List ByteArray → Bool
  | [] => true
  | [a] => validD a.data.toList
  | a :: b :: r => validD a.data.toList && Op.bytesLess a.data.toList b.data.toList && riseK (b :: r)
def okOne : JV → Bool
  | .mk k m e s l ks => decide (0 ≤ k ∧ k ≤ 6) && (decide (k = 3) || (decide (m = 0) && decide (e = 0))) && (decide (k = 4) || decide (s.size = 0)) && (decide (5 ≤ k) || decide (l.length = 0)) && (decide (k = 6) || decide (ks.length = 0)) &&
    (decide (k ≠ 6) || decide (ks.length = l.length)) && right m e && validD s.data.toList && riseK ks
mutual
def allJ : JV → Bool
  | .mk k m e s l ks => okOne (.mk k m e s l ks) && allL l
def allL : List JV → Bool
  | [] => true
  | v :: r => allJ v && allL r
end
def rightJ (v : JV) : Int := if 48 < depthJ v then 31 else if allJ v then 0 else 30
mutual
def sameJ : JV → JV → Bool
  | .mk k m e s l ks, .mk k' m' e' s' l' ks' => decide (k = k') && decide (m = m') && decide (e = e') && decide (s = s') && decide (ks = ks') && sameL l l'
def sameL : List JV → List JV → Bool
  | [], [] => true
  | v :: r, v' :: r' => sameJ v v' && sameL r r'
  | _, _ => false
end
mutual
theorem sameJ_iff : ∀ a b : JV, sameJ a b = true ↔ a = b
  | .mk k m e s l ks, .mk k' m' e' s' l' ks' => by
    simp only [sameJ, Bool.and_eq_true, decide_eq_true_eq, sameL_iff l l', JV.mk.injEq]
    constructor
    · rintro ⟨⟨⟨⟨⟨rfl, rfl⟩, rfl⟩, rfl⟩, rfl⟩, rfl⟩; exact ⟨rfl, rfl, rfl, rfl, rfl, rfl⟩
    · rintro ⟨rfl, rfl, rfl, rfl, rfl, rfl⟩; exact ⟨⟨⟨⟨⟨rfl, rfl⟩, rfl⟩, rfl⟩, rfl⟩, rfl⟩
theorem sameL_iff : ∀ a b : List JV, sameL a b = true ↔ a = b
  | [], [] => by simp [sameL]
  | [], _ :: _ => by simp [sameL]
  | _ :: _, [] => by simp [sameL]
  | v :: r, v' :: r' => by
    simp only [sameL, Bool.and_eq_true, sameJ_iff v v', sameL_iff r r', List.cons.injEq]
end
theorem sameJ_self (a : JV) : sameJ a a = true := (sameJ_iff a a).2 rfl
section
variable (T : Int → Int → List UInt8)
mutual
/-- a value's text -/
def textJ : JV → List UInt8
  | .mk k m e s l ks => if k = 0 then [110, 117, 108, 108] else if k = 1 then [102, 97, 108, 115, 101] else if k = 2 then [116, 114, 117, 101]
    else if k = 3 then T m e else if k = 4 then quoteD s.data.toList
    else if k = 5 then 91 :: textL true false l [] ++ [93] else 123 :: textL true true l ks ++ [125]
def textL (first named : Bool) : List JV → List ByteArray → List UInt8
  | [], _ => []
  | v :: r, ks => (if first then [] else [44]) ++ (if named then quoteD (ks.headD ⟨#[]⟩).data.toList ++ [58] else []) ++ textJ v ++ textL false named r (ks.drop 1)
end
theorem quoteD_le (l : List UInt8) : (quoteD l).length ≤ 6 * l.length + 2 := by
  have := bodyD_le l
  unfold quoteD
  simp only [List.cons_append, List.length_cons, List.length_append, List.length_nil]
  omega
theorem keysN_head (ks : List ByteArray) : (ks.headD ⟨#[]⟩).size + keysN (ks.drop 1) ≤ keysN ks := by
  cases ks with
  | nil => show 0 + 0 ≤ 0; omega
  | cons k r => show k.size + keysN r ≤ 1 + k.size + keysN r; omega
mutual
theorem textJ_le (hT : ∀ m e, (T m e).length ≤ 3000) : ∀ v : JV, (textJ T v).length + 500 ≤ 4000 * sizeJ v
  | .mk k m e s l ks => by
    have h1 := hT m e
    have h2 := quoteD_le s.data.toList
    rw [size_listU] at h2
    have h3 := textL_le hT true false l []
    have h4 := textL_le hT true true l ks
    simp only [textJ, sizeJ]
    simp only [keysN] at h3
    repeat' split
    all_goals first
      | (simp only [List.cons_append, List.length_cons, List.length_append, List.length_nil]; omega)
      | omega
theorem textL_le (hT : ∀ m e, (T m e).length ≤ 3000) (first named : Bool) : ∀ (l : List JV) (ks : List ByteArray), (textL T first named l ks).length ≤ 4000 * sizeL l + 10 * keysN ks
  | [], ks => by simp [textL]
  | v :: r, ks => by
    have h1 := textJ_le hT v
    have h2 := textL_le hT false named r (ks.drop 1)
    have h3 := quoteD_le (ks.headD ⟨#[]⟩).data.toList
    have h4 := keysN_head ks
    rw [size_listU] at h3
    simp only [textL, sizeL, List.length_append]
    have h5 : (if first = true then ([] : List UInt8) else [44]).length ≤ 1 := by split <;> simp
    have h6 : (if named = true then quoteD (ks.headD ⟨#[]⟩).data.toList ++ [58] else []).length ≤ 6 * (ks.headD ⟨#[]⟩).size + 3 := by
      split
      · rw [List.length_append, List.length_singleton]; omega
      · simp
    omega
end
end
end Th
namespace Th
open Go Go.Lib
section
variable (T : Int → Int → List UInt8)
theorem textL_append (named : Bool) : ∀ (a : List JV) (first : Bool) (ks : List ByteArray) (b : List JV), textL T first named (a ++ b) ks = textL T first named a ks ++ textL T (first && a.isEmpty) named b (ks.drop a.length)
  | [], first, ks, b => by simp [textL]
  | v :: a, first, ks, b => by
    simp only [List.cons_append, textL, textL_append named a false (ks.drop 1) b, List.isEmpty_cons, Bool.and_false, Bool.false_and, List.drop_drop, List.length_cons, List.append_assoc]
    rw [Nat.add_comm 1 a.length]
theorem textL_take (named : Bool) (l : List JV) (ks : List ByteArray) (j : Nat) (h : j < l.length) :
    textL T true named (l.take (j + 1)) ks = textL T true named (l.take j) ks ++ (if j = 0 then [] else [44]) ++ (if named then quoteD (ks.getD j ⟨#[]⟩).data.toList ++ [58] else []) ++ textJ T l[j] := by
  rw [List.take_succ_eq_append_getElem h, textL_append]
  have hl : (l.take j).length = j := by rw [List.length_take]; omega
  have he : (true && (l.take j).isEmpty) = decide (j = 0) := by
    cases j with
    | zero => simp
    | succ j =>
      cases l with
      | nil => simp at h
      | cons x l => simp
  rw [he, hl]
  simp only [textL, List.append_nil, List.append_assoc]
  congr 1
  have hk : (ks.drop j).headD ⟨#[]⟩ = ks.getD j ⟨#[]⟩ := by
    rw [List.headD_eq_head?_getD, List.head?_drop, List.getD_eq_getElem?_getD]
  rw [hk]
  by_cases h0 : j = 0 <;> simp [h0]
theorem textL_le_take (named : Bool) (l : List JV) (ks : List ByteArray) (j : Nat) : (textL T true named (l.take j) ks).length ≤ (textL T true named l ks).length := by
  have h := textL_append T named (l.take j) true ks (l.drop j)
  rw [List.take_append_drop] at h
  rw [h, List.length_append]; omega
theorem textJ_list (k m e : Int) (s : ByteArray) (l : List JV) (ks : List ByteArray) (h : k = 5) : textJ T (.mk k m e s l ks) = 91 :: textL T true false l ks ++ [93] := by
  subst h
  have : ∀ (f : Bool) (l : List JV) (ks ks' : List ByteArray), textL T f false l ks = textL T f false l ks' := by
    intro f l
    induction l generalizing f with
    | nil => intro _ _; rfl
    | cons x l ih => intro ks ks'; simp only [textL]; rw [ih false (ks.drop 1) (ks'.drop 1)]; rfl
  simp only [textJ]
  rw [if_neg (by omega), if_neg (by omega), if_neg (by omega), if_neg (by omega), if_neg (by omega), if_pos True.intro, this true l [] ks]
theorem textJ_map (k m e : Int) (s : ByteArray) (l : List JV) (ks : List ByteArray) (h : k = 6) : textJ T (.mk k m e s l ks) = 123 :: textL T true true l ks ++ [125] := by
  subst h
  simp only [textJ]
  rw [if_neg (by omega), if_neg (by omega), if_neg (by omega), if_neg (by omega), if_neg (by omega), if_neg (by omega)]
end
end Th
namespace Th
open Go Go.Lib
theorem decodeN_mono (n n' b0 b1 b2 b3 c1 c2 c3 : Nat) (hn : n ≤ n') (h1 : 1 < n → c1 = b1) (h2 : 2 < n → c2 = b2) (h3 : 3 < n → c3 = b3) (hb : decodeN n b0 b1 b2 b3 ≠ (65533, 1)) : decodeN n' b0 c1 c2 c3 = decodeN n b0 b1 b2 b3 := by
  rcases decodeN_shape n b0 b1 b2 b3 with ⟨c, e⟩ | ⟨d1, d2, d3, cv, e⟩ | ⟨d1, d2, d3, d4, cv, cs, e⟩ | ⟨d1, d2, d3, d4, d5, cv, cw, e⟩ | e
  · rw [e]; unfold decodeN; rw [if_pos c]
  · rw [e]; obtain rfl := h1 d2; unfold decodeN
    rw [if_neg (by omega), if_pos ⟨d1, by omega, d3⟩, if_pos (by omega)]
  · rw [e]; obtain rfl := h1 (by omega); obtain rfl := h2 d2; unfold decodeN
    rw [if_neg (by omega), if_neg (by omega), if_pos ⟨d1, ⟨by omega, d3⟩, by omega, d4⟩, if_pos (by omega)]
  · rw [e]; obtain rfl := h1 (by omega); obtain rfl := h2 (by omega); obtain rfl := h3 d2; unfold decodeN
    rw [if_neg (by omega), if_neg (by omega), if_neg (by omega), if_pos ⟨d1, ⟨by omega, d3⟩, ⟨by omega, d4⟩, by omega, d5⟩, if_pos (by omega)]
  · exact absurd e hb
theorem getD_appendU (a b : List UInt8) (k : Nat) (h : k < a.length) : (a ++ b).getD k 0 = a.getD k 0 := by simp [List.getD, List.getElem?_append_left h]
theorem decode_append (a b : List UInt8) (hne : a ≠ []) (hb : ¬ badD a) : decodeL (a ++ b) = decodeL a := by
  have hl : 0 < a.length := List.length_pos_iff.2 hne
  unfold badD at hb
  rw [decodeL_N] at hb
  rw [decodeL_N, decodeL_N, getD_appendU a b 0 hl]
  refine decodeN_mono _ _ _ _ _ _ _ _ _ (by simp) (fun h => by rw [getD_appendU a b 1 h]) (fun h => by rw [getD_appendU a b 2 h]) (fun h => by rw [getD_appendU a b 3 h]) (fun h => hb ?_)
  rw [h]; exact ⟨rfl, rfl⟩
theorem valid_append : ∀ (n : Nat) (a b : List UInt8), a.length ≤ n → validD a = true → validD (a ++ b) = validD b := by
  intro n
  induction n with
  | zero => intro a b h _; obtain rfl : a = [] := List.eq_nil_of_length_eq_zero (by omega); rfl
  | succ n ih =>
    intro a b h hv
    by_cases hne : a = []
    · subst hne; rfl
    · rw [validD_step a hne] at hv
      by_cases hb : badD a
      · rw [if_pos hb] at hv; cases hv
      · rw [if_neg hb] at hv
        have hd := decode_append a b hne hb
        have hle := decodeL_le a hne
        have hw := decodeL_width a
        rw [validD_step (a ++ b) (by simp [hne]), if_neg (by unfold badD at *; rw [hd]; exact hb), hd, List.drop_append_of_le_length hle]
        exact ih _ b (by rw [List.length_drop]; omega) hv
theorem validD_append {a b : List UInt8} (ha : validD a = true) (hb : validD b = true) : validD (a ++ b) = true := by rw [valid_append _ a b (Nat.le_refl _) ha, hb]
theorem decode_one (c : UInt8) (h : c.toNat < 128) : decodeL [c] = (c.toNat, 1) := by
  rw [decodeL_N]; unfold decodeN; rw [if_pos (by simpa using h)]; rfl
theorem valid_one (c : UInt8) (h : c.toNat < 128) : validD [c] = true := by
  rw [validD_step _ (by simp), decode_one c h, if_neg]
  · rfl
  · unfold badD; rw [decode_one c h]; intro h2; have := h2.1; dsimp only at this; omega
theorem valid_ascii : ∀ (l : List UInt8), (∀ c ∈ l, c.toNat < 128) → validD l = true
  | [], _ => rfl
  | c :: r, h => by
    have := validD_append (valid_one c (h c (by simp))) (valid_ascii r (fun d hd => h d (by simp [hd])))
    simpa using this
theorem byteZ {z : Int} (h0 : 0 ≤ z) (h1 : z < 256) : ((z.toNat.toUInt8).toNat : Int) = z := by
  have : z.toNat.toUInt8.toNat = z.toNat := by
    show (UInt8.ofNat z.toNat).toNat = z.toNat
    simp; omega
  rw [this]; omega
theorem valid_whole (l : List UInt8) (hne : l ≠ []) (hb : ¬ badD l) (hw : (decodeL l).2 = l.length) : validD l = true := by
  rw [validD_step l hne, if_neg hb, hw, List.drop_length]; rfl
theorem valid_rune (c : Int) : validD (encodeRune c) = true := by
  have hcs : (0 ≤ c ∧ c < 128) ∨ (128 ≤ c ∧ c < 2048) ∨ (2048 ≤ c ∧ c < 65536 ∧ (c < 55296 ∨ 57343 < c)) ∨ (65536 ≤ c ∧ c ≤ 1114111) ∨ (c < 0 ∨ (55296 ≤ c ∧ c ≤ 57343) ∨ 1114111 < c) := by omega
  unfold encodeRune
  rcases hcs with ⟨ha, hb⟩ | ⟨ha, hb⟩ | ⟨ha, hb, hc⟩ | ⟨ha, hb⟩ | h
  · rw [encodeRuneZ_one ha (by omega)]
    show validD [c.toNat.toUInt8] = true
    exact valid_one _ (by have := byteZ ha (show c < 256 by omega); omega)
  · rw [encodeRuneZ_two ha (by omega)]
    have e0 := byteZ (z := 192 + c / 64) (by omega) (by omega)
    have e1 := byteZ (z := 128 + c % 64) (by omega) (by omega)
    simp only [List.map_cons, List.map_nil]
    generalize (192 + c / 64).toNat.toUInt8 = x0 at *
    generalize (128 + c % 64).toNat.toUInt8 = x1 at *
    have hd : decodeL [x0, x1] = (x0.toNat % 32 * 64 + x1.toNat % 64, 2) := by
      rw [decodeL_N]; unfold decodeN
      simp only [List.length_cons, List.length_nil, List.getD_cons_zero, List.getD_cons_succ]
      rw [if_neg (by omega), if_pos ⟨by omega, by omega, by omega⟩, if_pos (by omega)]
    exact valid_whole _ (by simp) (by unfold badD; rw [hd]; intro h; cases h.2) (by rw [hd]; rfl)
  · rw [encodeRuneZ_three (by omega)]
    have e0 := byteZ (z := 224 + c / 4096) (by omega) (by omega)
    have e1 := byteZ (z := 128 + c / 64 % 64) (by omega) (by omega)
    have e2 := byteZ (z := 128 + c % 64) (by omega) (by omega)
    simp only [List.map_cons, List.map_nil]
    generalize (224 + c / 4096).toNat.toUInt8 = x0 at *
    generalize (128 + c / 64 % 64).toNat.toUInt8 = x1 at *
    generalize (128 + c % 64).toNat.toUInt8 = x2 at *
    have hd : decodeL [x0, x1, x2] = (x0.toNat % 16 * 4096 + x1.toNat % 64 * 64 + x2.toNat % 64, 3) := by
      rw [decodeL_N]; unfold decodeN
      simp only [List.length_cons, List.length_nil, List.getD_cons_zero, List.getD_cons_succ]
      rw [if_neg (by omega), if_neg (by omega), if_pos ⟨by omega, ⟨by omega, by omega⟩, by omega, by omega⟩, if_pos (by omega)]
    exact valid_whole _ (by simp) (by unfold badD; rw [hd]; intro h; cases h.2) (by rw [hd]; rfl)
  · rw [encodeRuneZ_four ha hb]
    have e0 := byteZ (z := 240 + c / 262144) (by omega) (by omega)
    have e1 := byteZ (z := 128 + c / 4096 % 64) (by omega) (by omega)
    have e2 := byteZ (z := 128 + c / 64 % 64) (by omega) (by omega)
    have e3 := byteZ (z := 128 + c % 64) (by omega) (by omega)
    simp only [List.map_cons, List.map_nil]
    generalize (240 + c / 262144).toNat.toUInt8 = x0 at *
    generalize (128 + c / 4096 % 64).toNat.toUInt8 = x1 at *
    generalize (128 + c / 64 % 64).toNat.toUInt8 = x2 at *
    generalize (128 + c % 64).toNat.toUInt8 = x3 at *
    have hd : decodeL [x0, x1, x2, x3] = (x0.toNat % 8 * 262144 + x1.toNat % 64 * 4096 + x2.toNat % 64 * 64 + x3.toNat % 64, 4) := by
      rw [decodeL_N]; unfold decodeN
      simp only [List.length_cons, List.length_nil, List.getD_cons_zero, List.getD_cons_succ]
      rw [if_neg (by omega), if_neg (by omega), if_neg (by omega), if_pos ⟨by omega, ⟨by omega, by omega⟩, ⟨by omega, by omega⟩, by omega, by omega⟩, if_pos (by omega)]
    exact valid_whole _ (by simp) (by unfold badD; rw [hd]; intro h; cases h.2) (by rw [hd]; rfl)
  · rw [encodeRuneZ_bad h]; decide
/-! the law's own look at a text, byte by byte: in quotes?, behind a backslash? -/
def stepC (st : Option (Bool × Bool)) (c : UInt8) : Option (Bool × Bool) :=
  match st with
  | none => none
  | some (i, b) => if c.toNat < 32 ∨ (c.toNat = 32 ∧ i = false) then none else
    let i' := if c.toNat = 34 ∧ b = false then !i else i
    some (i', i' && decide (c.toNat = 92) && !b)
def runC (st : Option (Bool × Bool)) (l : List UInt8) : Option (Bool × Bool) := l.foldl stepC st
theorem runC_append (st : Option (Bool × Bool)) (a b : List UInt8) : runC st (a ++ b) = runC (runC st a) b := by unfold runC; rw [List.foldl_append]
theorem runC_cons (st : Option (Bool × Bool)) (c : UInt8) (r : List UInt8) : runC st (c :: r) = runC (stepC st c) r := rfl
theorem runC_out : ∀ (l : List UInt8), (∀ c ∈ l, 32 < c.toNat ∧ c.toNat ≠ 34) → runC (some (false, false)) l = some (false, false)
  | [], _ => rfl
  | c :: r, h => by
    have hc := h c (by simp)
    rw [runC_cons, show stepC (some (false, false)) c = some (false, false) by unfold stepC; simp only; rw [if_neg (by omega), if_neg (by omega)]; rfl]
    exact runC_out r (fun d hd => h d (by simp [hd]))
theorem runC_in : ∀ (l : List UInt8), (∀ c ∈ l, 32 ≤ c.toNat ∧ c.toNat ≠ 34 ∧ c.toNat ≠ 92) → runC (some (true, false)) l = some (true, false)
  | [], _ => rfl
  | c :: r, h => by
    have hc := h c (by simp)
    rw [runC_cons, show stepC (some (true, false)) c = some (true, false) by
      unfold stepC; simp only; rw [if_neg (by rintro (h | ⟨_, h⟩); omega; cases h), if_neg (by omega), decide_eq_false hc.2.2]; rfl]
    exact runC_in r (fun d hd => h d (by simp [hd]))
theorem hexS_in (n : Nat) (h : n < 16) : 32 ≤ (hexS n).toNat ∧ (hexS n).toNat ≠ 34 ∧ (hexS n).toNat ≠ 92 ∧ (hexS n).toNat < 128 := by
  revert h; revert n; decide
theorem rune_in (c : Nat) (h : 32 ≤ c) (h1 : c ≠ 34) (h2 : c ≠ 92) : ∀ x ∈ encodeRune (c : Int), 32 ≤ x.toNat ∧ x.toNat ≠ 34 ∧ x.toNat ≠ 92 := by
  intro x hx
  unfold encodeRune at hx
  obtain ⟨z, hz, rfl⟩ := List.mem_map.1 hx
  unfold encodeRuneZ at hz
  have key : ∀ z : Int, 0 ≤ z → z < 256 → (128 ≤ z ∨ z = c) → 32 ≤ (z.toNat.toUInt8).toNat ∧ (z.toNat.toUInt8).toNat ≠ 34 ∧ (z.toNat.toUInt8).toNat ≠ 92 := by
    intro z h0 h1 h3
    have := byteZ h0 h1
    omega
  repeat' split at hz
  all_goals simp only [List.mem_cons, List.not_mem_nil, or_false] at hz
  · subst hz; exact key _ (by omega) (by omega) (Or.inr rfl)
  · rcases hz with rfl | rfl <;> exact key _ (by omega) (by omega) (Or.inl (by omega))
  · rcases hz with rfl | rfl | rfl <;> exact key _ (by omega) (by omega) (Or.inl (by omega))
  · rcases hz with rfl | rfl | rfl | rfl <;> exact key _ (by omega) (by omega) (Or.inl (by omega))
  · rcases hz with rfl | rfl | rfl <;> exact key _ (by omega) (by omega) (Or.inl (by omega))
theorem escS_run (c : Nat) : runC (some (true, false)) (escS c) = some (true, false) ∧ validD (escS c) = true := by
  unfold escS
  split
  · rename_i h; rcases h with rfl | rfl <;> exact ⟨by decide, by decide⟩
  repeat' split
  · exact ⟨by decide, by decide⟩
  · exact ⟨by decide, by decide⟩
  · exact ⟨by decide, by decide⟩
  · exact ⟨by decide, by decide⟩
  · exact ⟨by decide, by decide⟩
  · rename_i h
    have h1 := hexS_in (c / 16) (by omega)
    have h2 := hexS_in (c % 16) (by omega)
    constructor
    · rw [show ([92, 117, 48, 48, hexS (c / 16), hexS (c % 16)] : List UInt8) = [92, 117] ++ [48, 48, hexS (c / 16), hexS (c % 16)] from rfl, runC_append, show runC (some (true, false)) [92, 117] = some (true, false) by decide]
      refine runC_in _ fun x hx => ?_
      simp only [List.mem_cons, List.not_mem_nil, or_false] at hx
      rcases hx with rfl | rfl | rfl | rfl
      · decide
      · decide
      · exact ⟨h1.1, h1.2.1, h1.2.2.1⟩
      · exact ⟨h2.1, h2.2.1, h2.2.2.1⟩
    · refine valid_ascii _ fun x hx => ?_
      simp only [List.mem_cons, List.not_mem_nil, or_false] at hx
      rcases hx with rfl | rfl | rfl | rfl | rfl | rfl
      · decide
      · decide
      · decide
      · decide
      · exact h1.2.2.2
      · exact h2.2.2.2
  · rename_i h1 _ _ _ _ _ h2
    exact ⟨runC_in _ (rune_in c (by omega) (by omega) (by omega)), valid_rune _⟩
theorem bodyD_run : ∀ (n : Nat) (l : List UInt8), l.length ≤ n → runC (some (true, false)) (bodyD l) = some (true, false) ∧ validD (bodyD l) = true := by
  intro n
  induction n with
  | zero => intro l h; obtain rfl : l = [] := List.eq_nil_of_length_eq_zero (by omega); exact ⟨rfl, rfl⟩
  | succ n ih =>
    intro l h
    by_cases hne : l = []
    · subst hne; exact ⟨rfl, rfl⟩
    · have hw := decodeL_width l
      have hl : 0 < l.length := List.length_pos_iff.2 hne
      obtain ⟨h1, h2⟩ := escS_run (decodeL l).1
      obtain ⟨h3, h4⟩ := ih (l.drop (decodeL l).2) (by rw [List.length_drop]; omega)
      rw [bodyD_step l hne, runC_append, h1]
      exact ⟨h3, validD_append h2 h4⟩
theorem quoteD_run (l : List UInt8) : runC (some (false, false)) (quoteD l) = some (false, false) ∧ validD (quoteD l) = true := by
  obtain ⟨h1, h2⟩ := bodyD_run _ l (Nat.le_refl _)
  unfold quoteD
  rw [List.cons_append, runC_cons, runC_append, show stepC (some (false, false)) 34 = some (true, false) by decide, h1]
  refine ⟨by decide, ?_⟩
  have := validD_append (valid_one 34 (by decide)) (validD_append h2 (valid_one 34 (by decide)))
  simpa using this
section
variable (T : Int → Int → List UInt8)
mutual
theorem textJ_run (hT : ∀ m e, ∀ c ∈ T m e, 32 < c.toNat ∧ c.toNat ≠ 34 ∧ c.toNat < 128) : ∀ v : JV, runC (some (false, false)) (textJ T v) = some (false, false) ∧ validD (textJ T v) = true
  | .mk k m e s l ks => by
    have h1 : runC (some (false, false)) (T m e) = some (false, false) ∧ validD (T m e) = true := ⟨runC_out _ (fun c hc => ⟨(hT m e c hc).1, (hT m e c hc).2.1⟩), valid_ascii _ (fun c hc => (hT m e c hc).2.2)⟩
    have h2 := quoteD_run s.data.toList
    obtain ⟨h3, h4⟩ := textL_run hT true false l []
    obtain ⟨h5, h6⟩ := textL_run hT true true l ks
    simp only [textJ]
    repeat' split
    · exact ⟨by decide, by decide⟩
    · exact ⟨by decide, by decide⟩
    · exact ⟨by decide, by decide⟩
    · exact h1
    · exact h2
    · rw [List.cons_append, runC_cons, runC_append, show stepC (some (false, false)) 91 = some (false, false) by decide, h3]
      refine ⟨by decide, ?_⟩
      have := validD_append (valid_one 91 (by decide)) (validD_append h4 (valid_one 93 (by decide)))
      simpa using this
    · rw [List.cons_append, runC_cons, runC_append, show stepC (some (false, false)) 123 = some (false, false) by decide, h5]
      refine ⟨by decide, ?_⟩
      have := validD_append (valid_one 123 (by decide)) (validD_append h6 (valid_one 125 (by decide)))
      simpa using this
theorem textL_run (hT : ∀ m e, ∀ c ∈ T m e, 32 < c.toNat ∧ c.toNat ≠ 34 ∧ c.toNat < 128) (first named : Bool) : ∀ (l : List JV) (ks : List ByteArray), runC (some (false, false)) (textL T first named l ks) = some (false, false) ∧ validD (textL T first named l ks) = true
  | [], ks => ⟨rfl, rfl⟩
  | v :: r, ks => by
    obtain ⟨h1, h2⟩ := textJ_run hT v
    obtain ⟨h3, h4⟩ := textL_run hT false named r (ks.drop 1)
    obtain ⟨h5, h6⟩ := quoteD_run (ks.headD ⟨#[]⟩).data.toList
    have h7 : runC (some (false, false)) (if first = true then ([] : List UInt8) else [44]) = some (false, false) ∧ validD (if first = true then ([] : List UInt8) else [44]) = true := by
      split <;> exact ⟨by decide, by decide⟩
    have h8 : runC (some (false, false)) (if named = true then quoteD (ks.headD ⟨#[]⟩).data.toList ++ [58] else []) = some (false, false) ∧ validD (if named = true then quoteD (ks.headD ⟨#[]⟩).data.toList ++ [58] else []) = true := by
      split
      · rw [runC_append, h5]; exact ⟨by decide, validD_append h6 (by decide)⟩
      · exact ⟨rfl, rfl⟩
    simp only [textL]
    rw [runC_append, runC_append, runC_append, h7.1, h8.1, h1, h3]
    exact ⟨rfl, validD_append (validD_append (validD_append h7.2 h8.2) h2) h4⟩
end
end
end Th
