/- Lemmas and contracts for the laws ReadParses, ReadBytes, part 3 of 50: Types, ValMath, Lib, RefMath. Conditions: those that each lemma names. -/
import Derived.Test.YtbngjlkmpdccjaaGreatDoorProg
import Derived.Test.YtbngjlkmpdccjaaGreatDoorPack1
import Derived.Test.YtbngjlkmpdccjaaGreatDoorPack2
import Derived.Laws.StructEq
import Derived.Lib.ValidU
import Derived.Lib.MapLaws
import GoSem.Op.String
import Derived.Shelf.Spec.BitsCarry
import Derived.Lib.Hide
namespace Go.Proofs.YtbngjlkmpdccjaaGreatDoor
open Go Go.RowKit Go.Proofs Th
set_option maxRecDepth 100000 in
theorem eq_num (a b c d : Int) (w : World) : (Op.equalIn 10000 24 (.agg #[.int .i64 a, .int .i64 b]) (.agg #[.int .i64 c, .int .i64 d])).run Tryz.prog w = .ok (a == c && b == d) w := by
  have u3 := Tryz.underlying3
  have a3 := Tryz.isAgg3
  have z3 := Tryz.sizeOf3
  have u2 := Tryz.underlying2
  have a2 := Tryz.isAgg2
  have z2 := Tryz.sizeOf2
  have hS : Tryz.prog.underlying 24 = some (.struct (Tryz.prog.fieldsOf 24)) := by kernel_rfl
  have hp : Tryz.prog.stoodInHeld 24 = false := by kernel_rfl
  rw [show (10000 : Nat) = 9999 + 1 from rfl, run_equalIn_agg w 9999 24 _ _ hS hp]
  simp only [Program.fieldsOf, Tryz.underlying24]
  go_simp
  by_cases h1 : a = c <;> by_cases h2 : b = d <;> simp [h1, h2]
@[go_sem ↓] theorem eql_num (a b c d : Int) (w : World) : (binOp .eql 24 (.agg #[.int .i64 a, .int .i64 b]) (.agg #[.int .i64 c, .int .i64 d])).run Tryz.prog w = .ok (.bool (a == c && b == d)) w := by
  rw [run_eql_struct, eq_num]; rfl
@[go_sem ↓] theorem neq_num (a b c d : Int) (w : World) : (binOp .neq 24 (.agg #[.int .i64 a, .int .i64 b]) (.agg #[.int .i64 c, .int .i64 d])).run Tryz.prog w = .ok (.bool (!(a == c && b == d))) w := by
  rw [run_neq_struct, eq_num]; rfl
end Go.Proofs.YtbngjlkmpdccjaaGreatDoor
namespace Th
open Go Go.Lib
theorem size_listU (s : ByteArray) : s.data.toList.length = s.size := by simp
def charS (c : Int) : List UInt8 := if c < 0 ∨ 1114111 < c ∨ (55296 ≤ c ∧ c ≤ 57343) then [] else encodeRune c
theorem charS_bad {c : Int} (h : c < 0 ∨ 1114111 < c ∨ (55296 ≤ c ∧ c ≤ 57343)) : charS c = [] := by unfold charS; rw [if_pos h]
theorem charS_one {c : Int} (h0 : 0 ≤ c) (h1 : c < 128) : charS c = [c.toNat.toUInt8] := by
  unfold charS encodeRune; rw [if_neg (by omega), encodeRuneZ_one h0 (by omega)]; rfl
theorem charS_two {c : Int} (h0 : 128 ≤ c) (h1 : c < 2048) : charS c = [(192 + c / 64).toNat.toUInt8, (128 + c % 64).toNat.toUInt8] := by
  unfold charS encodeRune; rw [if_neg (by omega), encodeRuneZ_two h0 (by omega)]; rfl
theorem charS_three {c : Int} (h0 : 2048 ≤ c) (h1 : c < 65536) (h2 : c < 55296 ∨ 57343 < c) : charS c = [(224 + c / 4096).toNat.toUInt8, (128 + c / 64 % 64).toNat.toUInt8, (128 + c % 64).toNat.toUInt8] := by
  unfold charS encodeRune; rw [if_neg (by omega), encodeRuneZ_three (by omega)]; rfl
theorem charS_four {c : Int} (h0 : 65536 ≤ c) (h1 : c ≤ 1114111) : charS c = [(240 + c / 262144).toNat.toUInt8, (128 + c / 4096 % 64).toNat.toUInt8, (128 + c / 64 % 64).toNat.toUInt8, (128 + c % 64).toNat.toUInt8] := by
  unfold charS encodeRune; rw [if_neg (by omega), encodeRuneZ_four h0 h1]; rfl
def badD (l : List UInt8) : Prop := (decodeL l).1 = 65533 ∧ (decodeL l).2 = 1
instance (l : List UInt8) : Decidable (badD l) := by unfold badD; infer_instance
def firstS (l : List UInt8) : Nat × Nat := if l = [] ∨ badD l then (0, 0) else decodeL l
def candS (l : List UInt8) (n : Nat) : Int :=
  match n with
  | 1 => (l.getD 0 0).toNat
  | 2 => ((l.getD 0 0).toNat - 192) * 64 + (l.getD 1 0).toNat - 128
  | 3 => (((l.getD 0 0).toNat - 224) * 64 + (l.getD 1 0).toNat - 128) * 64 + (l.getD 2 0).toNat - 128
  | _ => ((((l.getD 0 0).toNat - 240) * 64 + (l.getD 1 0).toNat - 128) * 64 + (l.getD 2 0).toNat - 128) * 64 + (l.getD 3 0).toNat - 128
theorem byteN {z : Int} (h0 : 0 ≤ z) (h1 : z < 256) {x : UInt8} (h : z.toNat.toUInt8 = x) : z = (x.toNat : Int) := by
  subst h
  have : z.toNat.toUInt8.toNat = z.toNat := by
    show (UInt8.ofNat z.toNat).toNat = z.toNat
    simp; omega
  rw [this]; omega
theorem cand_iff (l : List UInt8) (n : Nat) (h1 : 1 ≤ n) (h4 : n ≤ 4) (hl : n ≤ l.length) : charS (candS l n) = l.take n ↔ (¬ badD l ∧ (decodeL l).2 = n) := by
  have k0 := (l.getD 0 0).toNat_lt
  have k1 := (l.getD 1 0).toNat_lt
  have k2 := (l.getD 2 0).toNat_lt
  have k3 := (l.getD 3 0).toNat_lt
  have hne : l ≠ [] := by rintro rfl; simp at hl; omega
  constructor
  · intro h
    unfold badD
    rw [decodeL_N]
    have hn : n = 1 ∨ n = 2 ∨ n = 3 ∨ n = 4 := by omega
    have hcs : (candS l n < 0 ∨ 1114111 < candS l n ∨ (55296 ≤ candS l n ∧ candS l n ≤ 57343)) ∨ (0 ≤ candS l n ∧ candS l n < 128) ∨ (128 ≤ candS l n ∧ candS l n < 2048) ∨ (2048 ≤ candS l n ∧ candS l n < 65536 ∧ (candS l n < 55296 ∨ 57343 < candS l n)) ∨ (65536 ≤ candS l n ∧ candS l n ≤ 1114111) := by omega
    have hlen : (charS (candS l n)).length = n := by rw [h, List.length_take]; omega
    rcases hcs with hc | ⟨ha, hb⟩ | ⟨ha, hb⟩ | ⟨ha, hb, hc⟩ | ⟨ha, hb⟩
    · rw [charS_bad hc] at hlen; simp at hlen; omega
    · rw [charS_one ha hb] at hlen h
      obtain rfl : n = 1 := by simpa using hlen.symm
      rw [takeA l (by omega)] at h
      injection h with e0
      have e0 := byteN ha (by omega) e0
      have : (l.getD 0 0).toNat < 128 := by omega
      rw [show decodeN l.length (l.getD 0 0).toNat (l.getD 1 0).toNat (l.getD 2 0).toNat (l.getD 3 0).toNat = ((l.getD 0 0).toNat, 1) by unfold decodeN; rw [if_pos this]]
      exact ⟨fun h => by have := h.1; dsimp only at this; omega, rfl⟩
    · rw [charS_two ha hb] at hlen h
      obtain rfl : n = 2 := by simpa using hlen.symm
      rw [takeB l (by omega)] at h
      injection h with e0 h; injection h with e1 h
      have e0 := byteN (by omega) (by omega) e0
      have e1 := byteN (by omega) (by omega) e1
      simp only [candS] at e0 e1 ha hb
      rcases decodeN_shape l.length (l.getD 0 0).toNat (l.getD 1 0).toNat (l.getD 2 0).toNat (l.getD 3 0).toNat with ⟨c, e⟩ | ⟨c1, c2, c3, cv, e⟩ | ⟨c1, c2, c3, c4, cv, cs, e⟩ | ⟨c1, c2, c3, c4, c5, cv, cw, e⟩ | e
      · omega
      · rw [e]; exact ⟨fun h => by have := h.2; dsimp only at this; omega, rfl⟩
      · omega
      · omega
      · exfalso
        unfold decodeN at e
        rw [if_neg (by omega), if_pos (by omega), if_pos (by omega)] at e
        injection e with e e2; omega
    · rw [charS_three ha hb hc] at hlen h
      obtain rfl : n = 3 := by simpa using hlen.symm
      rw [takeC l (by omega)] at h
      injection h with e0 h; injection h with e1 h; injection h with e2 h
      have e0 := byteN (by omega) (by omega) e0
      have e1 := byteN (by omega) (by omega) e1
      have e2 := byteN (by omega) (by omega) e2
      simp only [candS] at e0 e1 e2 ha hb hc
      rcases decodeN_shape l.length (l.getD 0 0).toNat (l.getD 1 0).toNat (l.getD 2 0).toNat (l.getD 3 0).toNat with ⟨c, e⟩ | ⟨c1, c2, c3, cv, e⟩ | ⟨c1, c2, c3, c4, cv, cs, e⟩ | ⟨c1, c2, c3, c4, c5, cv, cw, e⟩ | e
      · omega
      · omega
      · rw [e]; exact ⟨fun h => by have := h.2; dsimp only at this; omega, rfl⟩
      · omega
      · exfalso
        unfold decodeN at e
        rw [if_neg (by omega), if_neg (by omega), if_pos (by omega), if_pos (by omega)] at e
        injection e with e e2; omega
    · rw [charS_four ha hb] at hlen h
      obtain rfl : n = 4 := by simpa using hlen.symm
      rw [takeD l (by omega)] at h
      injection h with e0 h; injection h with e1 h; injection h with e2 h; injection h with e3 h
      have e0 := byteN (by omega) (by omega) e0
      have e1 := byteN (by omega) (by omega) e1
      have e2 := byteN (by omega) (by omega) e2
      have e3 := byteN (by omega) (by omega) e3
      simp only [candS] at e0 e1 e2 e3 ha hb
      rcases decodeN_shape l.length (l.getD 0 0).toNat (l.getD 1 0).toNat (l.getD 2 0).toNat (l.getD 3 0).toNat with ⟨c, e⟩ | ⟨c1, c2, c3, cv, e⟩ | ⟨c1, c2, c3, c4, cv, cs, e⟩ | ⟨c1, c2, c3, c4, c5, cv, cw, e⟩ | e
      · omega
      · omega
      · omega
      · rw [e]; exact ⟨fun h => by have := h.2; dsimp only at this; omega, rfl⟩
      · exfalso
        unfold decodeN at e
        rw [if_neg (by omega), if_neg (by omega), if_neg (by omega), if_pos (by omega), if_pos (by omega)] at e
        injection e with e e2; omega
  · rintro ⟨hb, hn⟩
    have he := encode_decode l hne hb
    have key : candS l n = ((decodeL l).1 : Int) ∧ ¬ (((decodeL l).1 : Int) < 0 ∨ 1114111 < ((decodeL l).1 : Int) ∨ (55296 ≤ ((decodeL l).1 : Int) ∧ ((decodeL l).1 : Int) ≤ 57343)) := by
      unfold badD at hb
      rw [decodeL_N] at hb hn ⊢
      rcases decodeN_shape l.length (l.getD 0 0).toNat (l.getD 1 0).toNat (l.getD 2 0).toNat (l.getD 3 0).toNat with ⟨c, e⟩ | ⟨c1, c2, c3, cv, e⟩ | ⟨c1, c2, c3, c4, cv, cs, e⟩ | ⟨c1, c2, c3, c4, c5, cv, cw, e⟩ | e
      all_goals (rw [e] at hb hn ⊢; dsimp only at hb hn ⊢; subst hn)
      · exact ⟨rfl, by omega⟩
      · simp only [candS]; omega
      · simp only [candS]; omega
      · simp only [candS]; omega
      · exact absurd ⟨rfl, rfl⟩ hb
    rw [key.1]
    unfold charS
    rw [if_neg key.2, he, hn]
theorem cand_val (l : List UInt8) (n : Nat) (hn : (decodeL l).2 = n) (hb : ¬ badD l) : candS l n = ((decodeL l).1 : Int) := by
  have k0 := (l.getD 0 0).toNat_lt
  have k1 := (l.getD 1 0).toNat_lt
  have k2 := (l.getD 2 0).toNat_lt
  have k3 := (l.getD 3 0).toNat_lt
  unfold badD at hb
  rw [decodeL_N] at hb hn ⊢
  rcases decodeN_shape l.length (l.getD 0 0).toNat (l.getD 1 0).toNat (l.getD 2 0).toNat (l.getD 3 0).toNat with ⟨c, e⟩ | ⟨c1, c2, c3, cv, e⟩ | ⟨c1, c2, c3, c4, cv, cs, e⟩ | ⟨c1, c2, c3, c4, c5, cv, cw, e⟩ | e
  all_goals (rw [e] at hb hn ⊢; dsimp only at hb hn ⊢; subst hn)
  · rfl
  · simp only [candS]; omega
  · simp only [candS]; omega
  · simp only [candS]; omega
  · exact absurd ⟨rfl, rfl⟩ hb
theorem width_four (l : List UInt8) : (decodeL l).2 ≤ 4 := by
  rw [decodeL_N]
  rcases decodeN_shape l.length (l.getD 0 0).toNat (l.getD 1 0).toNat (l.getD 2 0).toNat (l.getD 3 0).toNat with ⟨c, e⟩ | ⟨c1, c2, c3, cv, e⟩ | ⟨c1, c2, c3, c4, cv, cs, e⟩ | ⟨c1, c2, c3, c4, c5, cv, cw, e⟩ | e
  all_goals (rw [e]; dsimp only; omega)
/-! texts, character by character -/
theorem validGoD_fuel : ∀ (n m : Nat) (l : List UInt8), l.length ≤ n → l.length ≤ m → validGoD n l = validGoD m l
  | 0, m, l, hn, _ => by
    have : l = [] := List.eq_nil_of_length_eq_zero (by omega)
    subst this
    cases m <;> simp [validGoD]
  | n + 1, 0, l, _, hm => by
    have : l = [] := List.eq_nil_of_length_eq_zero (by omega)
    subst this
    simp [validGoD]
  | n + 1, m + 1, l, hn, hm => by
    by_cases hne : l = []
    · subst hne; simp [validGoD]
    · have hw := decodeL_width l
      have hl : 0 < l.length := List.length_pos_iff.2 hne
      simp only [validGoD, if_neg hne]
      rw [validGoD_fuel n m _ (by rw [List.length_drop]; omega) (by rw [List.length_drop]; omega)]
theorem validD_step (l : List UInt8) (hne : l ≠ []) : validD l = if badD l then false else validD (l.drop (decodeL l).2) := by
  have hw := decodeL_width l
  have hl : 0 < l.length := List.length_pos_iff.2 hne
  unfold validD badD
  obtain ⟨n, hn⟩ : ∃ n, l.length = n + 1 := ⟨l.length - 1, by omega⟩
  rw [hn]
  simp only [validGoD, if_neg hne]
  rw [validGoD_fuel n _ _ (by rw [List.length_drop]; omega) (Nat.le_refl _)]
def hexS (n : Nat) : UInt8 := if n < 10 then UInt8.ofNat (48 + n) else UInt8.ofNat (87 + n)
theorem encodeRune_le (r : Int) : (encodeRune r).length ≤ 4 := by
  unfold encodeRune encodeRuneZ
  rw [List.length_map]
  repeat' split
  all_goals simp
end Th
namespace Th
open Go Go.Lib
inductive JV where
  | mk (k m e : Int) (s : ByteArray) (l : List JV) (ks : List ByteArray)
def keysN : List ByteArray → Nat
  | [] => 0
  | k :: r => 1 + k.size + keysN r
mutual
/-- how many values and bytes it has -/
def sizeJ : JV → Nat
  | .mk _ _ _ s l ks => 1 + s.size + keysN ks + sizeL l
def sizeL : List JV → Nat
  | [] => 0
  | v :: r => sizeJ v + sizeL r
end
mutual
def depthJ : JV → Nat
  | .mk _ _ _ _ l _ => 1 + depthL l
def depthL : List JV → Nat
  | [] => 0
  | v :: r => max (depthJ v) (depthL r)
end
mutual
def countJ : JV → Nat
  | .mk _ _ _ _ l _ => 1 + countL l
def countL : List JV → Nat
  | [] => 0
  | v :: r => countJ v + countL r
end
def riseK : List ByteArray → Bool
  | [] => true
  | [a] => validD a.data.toList
  | a :: b :: r => validD a.data.toList && Op.bytesLess a.data.toList b.data.toList && riseK (b :: r)
def okOne : JV → Bool
  | .mk k m e s l ks => decide (0 ≤ k ∧ k ≤ 6) && (decide (k = 3) || (decide (m = 0) && decide (e = 0))) && (decide (k = 4) || decide (s.size = 0)) && (decide (5 ≤ k) || decide (l.length = 0)) && (decide (k = 6) || decide (ks.length = 0)) &&
    (decide (k ≠ 6) || decide (ks.length = l.length)) && right m e && validD s.data.toList && riseK ks
mutual
def allJ : JV → Bool
  | .mk k m e s l ks => okOne (.mk k m e s l ks) && allL l
def allL : List JV → Bool
  | [] => true
  | v :: r => allJ v && allL r
end
def rightJ (v : JV) : Int := if 48 < depthJ v then 31 else if allJ v then 0 else 30
mutual
def sameJ : JV → JV → Bool
  | .mk k m e s l ks, .mk k' m' e' s' l' ks' => decide (k = k') && decide (m = m') && decide (e = e') && decide (s = s') && decide (ks = ks') && sameL l l'
def sameL : List JV → List JV → Bool
  | [], [] => true
  | v :: r, v' :: r' => sameJ v v' && sameL r r'
  | _, _ => false
end
mutual
theorem sameJ_iff : ∀ a b : JV, sameJ a b = true ↔ a = b
  | .mk k m e s l ks, .mk k' m' e' s' l' ks' => by
    simp only [sameJ, Bool.and_eq_true, decide_eq_true_eq, sameL_iff l l', JV.mk.injEq]
    constructor
    · rintro ⟨⟨⟨⟨⟨rfl, rfl⟩, rfl⟩, rfl⟩, rfl⟩, rfl⟩; exact ⟨rfl, rfl, rfl, rfl, rfl, rfl⟩
    · rintro ⟨rfl, rfl, rfl, rfl, rfl, rfl⟩; exact ⟨⟨⟨⟨⟨rfl, rfl⟩, rfl⟩, rfl⟩, rfl⟩, rfl⟩
theorem sameL_iff : ∀ a b : List JV, sameL a b = true ↔ a = b
  | [], [] => by simp [sameL]
  | [], _ :: _ => by simp [sameL]
  | _ :: _, [] => by simp [sameL]
  | v :: r, v' :: r' => by
    simp only [sameL, Bool.and_eq_true, sameJ_iff v v', sameL_iff r r', List.cons.injEq]
end
theorem sameJ_self (a : JV) : sameJ a a = true := (sameJ_iff a a).2 rfl
section
variable (T : Int → Int → List UInt8)
end
end Th
namespace Th
open Go Go.Lib
section
variable (T : Int → Int → List UInt8)
end
end Th
namespace Th
open Go Go.Lib
/-! the law's own look at a text, byte by byte: in quotes?, behind a backslash? -/
section
variable (T : Int → Int → List UInt8)
end
end Th
namespace Go.Proofs.YtbngjlkmpdccjaaGreatDoor
open Go Go.RowKit Go.Proofs Th
theorem hasPrefix (s p : ByteArray) (w : World) : Calls Tryz.prog 48 #[.string s, .string p] w fun r w' => r = .returned (.bool (Lib.hasPrefix s.data.toList p.data.toList)) ∧ Below w.heap.size w w' :=
  calls_same (Tryz.strings_HasPrefix s p w)
theorem trimLeft (s : ByteArray) (w : World) : Calls Tryz.prog 52 #[.string s, .string ⟨#[48]⟩] w fun r w' => r = .returned (.string ⟨(Lib.trimLeftB s.data.toList 48).toArray⟩) ∧ Below w.heap.size w w' :=
  calls_same (Tryz.strings_TrimLeft_one s 48 (by decide) w)
theorem trimRight (s : ByteArray) (hs : s.size ≤ 9223372036854775807) (w : World) : Calls Tryz.prog 53 #[.string s, .string ⟨#[48]⟩] w fun r w' => r = .returned (.string ⟨(Lib.trimRightB s.data.toList 48).toArray⟩) ∧ Below w.heap.size w w' :=
  calls_same (Tryz.strings_TrimRight_one s 48 (by decide) w hs)
end Go.Proofs.YtbngjlkmpdccjaaGreatDoor
namespace Th
theorem short_cases (neg : Bool) (ds : List Nat) (e : Int) (hd : Digs ds) (d : Nat) (t : List Nat) (h0 : ds = d :: t) (hh : d ≠ 0) (hl : val ds % 10 ≠ 0) :
    (18 < ds.length ∧ norm neg (val ds) e = ((0, 0), 11)) ∨
    (ds.length ≤ 18 ∧ (e < -64 ∨ 64 < e) ∧ norm neg (val ds) e = ((0, 0), 11)) ∨
    (ds.length ≤ 18 ∧ -64 ≤ e ∧ e ≤ 64 ∧ val ds < 1000000000000000000 ∧ norm neg (val ds) e = ((if neg then -(val ds : Int) else val ds, e), 0)) := by
  rw [norm_fin _ _ _ hl]
  unfold fin
  have h1 := val_ge d t (by omega)
  rw [← h0] at h1
  have h2 := val_lt ds hd
  have h3 : ds.length = t.length + 1 := by rw [h0]; rfl
  by_cases h : 18 < ds.length
  · left
    have : (10 : Nat) ^ 18 ≤ 10 ^ t.length := Nat.pow_le_pow_right (by omega) (by omega)
    exact ⟨h, by rw [if_pos (by left; omega)]⟩
  · right
    have : 10 ^ ds.length ≤ (10 : Nat) ^ 18 := Nat.pow_le_pow_right (by omega) (by omega)
    by_cases hx : e < -64 ∨ 64 < e
    · left; exact ⟨by omega, hx, by rw [if_pos (by omega)]⟩
    · right; exact ⟨by omega, by omega, by omega, by omega, by rw [if_neg (by omega)]⟩
theorem val_zero_cons (ds : List Nat) : val (0 :: ds) = val ds := by rw [val_cons]; simp
theorem Digs.tail {a : Nat} {b : List Nat} (h : Digs (a :: b)) : Digs b := fun d hd => h d (List.mem_cons_of_mem _ hd)
theorem Digs.take {a : List Nat} (h : Digs a) (k : Nat) : Digs (a.take k) := fun d hd => h d (List.mem_of_mem_take hd)
theorem right_of_norm {m e : Int} (h : norm (decide (m < 0)) m.natAbs e = ((m, e), 0)) : right m e = true := by
  by_cases hm : m = 0
  · subst hm
    have : ((0, 0), 0) = ((((0 : Int), e), (0 : Int))) := h
    injection this with h1 _
    injection h1 with _ h2
    subst h2
    rfl
  · obtain ⟨a, k, ha, hk⟩ := exists_form m.natAbs (by omega)
    rw [hk, norm_of _ _ _ _ ha] at h
    unfold fin at h
    split at h
    · injection h with h1 h2
      exact absurd h2 (by decide)
    · rename_i hb
      injection h with h1 h2
      injection h1 with h3 h4
      have hk0 : k = 0 := by omega
      subst hk0
      rw [Nat.pow_zero, Nat.mul_one] at hk
      unfold right
      rw [if_neg hm]
      simp only [Bool.and_eq_true, decide_eq_true_eq]
      omega
theorem norm_err (neg : Bool) (m : Nat) (e : Int) : (norm neg m e).2 = 0 ∨ (norm neg m e) = ((0, 0), 11) := by
  unfold norm fin
  split
  · left; rfl
  · split
    · right; rfl
    · left; rfl
end Th
