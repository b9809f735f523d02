/- Lemmas and contracts for the laws SpellSames, part 3 of 47: Types, ValMath, Lib, FormMath, TextMath. Conditions: those that each lemma names. -/
import Derived.Test.YtakncilicoefdaaGreatDoorProg
import Derived.Test.YtakncilicoefdaaGreatDoorPa1
import Derived.Test.YtakncilicoefdaaGreatDoorPa2
import Derived.Laws.StructEq
import Derived.Lib.ValidU
import Derived.Lib.MapLaws
import GoSem.Op.String
import Derived.Shelf.Spec.BitsCarry
import Derived.Lib.Hide
import Derived.Lib.ItoaNum
import Derived.Lib.Bytealg
set_option maxRecDepth 100000
set_option maxHeartbeats 4000000
namespace Go.Proofs.YtakncilicoefdaaGreatDoor
open Go Go.RowKit Go.Proofs Th
theorem eq_num (a b c d : Int) (w : World) : (Op.equalIn 10000 23 (.agg #[.int .i64 a, .int .i64 b]) (.agg #[.int .i64 c, .int .i64 d])).run Tryz.prog w = .ok (a == c && b == d) w := by
  have u3 := Tryz.underlying3; have a3 := Tryz.isAgg3; have z3 := Tryz.sizeOf3; have u2 := Tryz.underlying2; have a2 := Tryz.isAgg2; have z2 := Tryz.sizeOf2; have hS : Tryz.prog.underlying 23 = some (.struct (Tryz.prog.fieldsOf 23)) := by kernel_rfl
  have hp : Tryz.prog.stoodInHeld 23 = false := by kernel_rfl
  rw [show (10000 : Nat) = 9999 + 1 from rfl, run_equalIn_agg w 9999 23 _ _ hS hp]; simp only [Program.fieldsOf, Tryz.underlying23]; go_simp; by_cases h1 : a = c <;> by_cases h2 : b = d <;> simp [h1, h2]
@[go_sem ↓] theorem eql_num (a b c d : Int) (w : World) : (binOp .eql 23 (.agg #[.int .i64 a, .int .i64 b]) (.agg #[.int .i64 c, .int .i64 d])).run Tryz.prog w = .ok (.bool (a == c && b == d)) w := by
  rw [run_eql_struct, eq_num]; rfl
@[go_sem ↓] theorem neq_num (a b c d : Int) (w : World) : (binOp .neq 23 (.agg #[.int .i64 a, .int .i64 b]) (.agg #[.int .i64 c, .int .i64 d])).run Tryz.prog w = .ok (.bool (!(a == c && b == d))) w := by
  rw [run_neq_struct, eq_num]; rfl
end Go.Proofs.YtakncilicoefdaaGreatDoor
namespace Th
open Go Go.Lib
theorem size_listU (s : ByteArray) : s.data.toList.length = s.size := by simp
def badD (l : List UInt8) : Prop := (decodeL l).1 = 65533 ∧ (decodeL l).2 = 1
instance (l : List UInt8) : Decidable (badD l) := by unfold badD; infer_instance
/-! texts, character by character -/
theorem validGoD_fuel : ∀ (n m : Nat) (l : List UInt8), l.length ≤ n → l.length ≤ m → validGoD n l = validGoD m l
  | 0, m, l, hn, _ => by
    have : l = [] := List.eq_nil_of_length_eq_zero (by omega); subst this; cases m <;> simp [validGoD]
  | n + 1, 0, l, _, hm => by
    have : l = [] := List.eq_nil_of_length_eq_zero (by omega); subst this; simp [validGoD]
  | n + 1, m + 1, l, hn, hm => by
    by_cases hne : l = []
    · subst hne; simp [validGoD]
    have hw := decodeL_width l; have hl : 0 < l.length := List.length_pos_iff.2 hne; simp only [validGoD, if_neg hne]; rw [validGoD_fuel n m _ (by rw [List.length_drop]; omega) (by rw [List.length_drop]; omega)]
theorem validD_step (l : List UInt8) (hne : l ≠ []) : validD l = if badD l then false else validD (l.drop (decodeL l).2) := by
  have hw := decodeL_width l; have hl : 0 < l.length := List.length_pos_iff.2 hne; unfold validD badD; obtain ⟨n, hn⟩ : ∃ n, l.length = n + 1 := ⟨l.length - 1, by omega⟩
  rw [hn]; simp only [validGoD, if_neg hne]; rw [validGoD_fuel n _ _ (by rw [List.length_drop]; omega) (Nat.le_refl _)]
def hexS (n : Nat) : UInt8 := if n < 10 then UInt8.ofNat (48 + n) else UInt8.ofNat (87 + n)
def escS (c : Nat) : List UInt8 :=
  if c = 34 ∨ c = 92 then [92, UInt8.ofNat c]
  else if c = 8 then [92, 98] else if c = 9 then [92, 116] else if c = 10 then [92, 110] else if c = 12 then [92, 102] else if c = 13 then [92, 114]
  else if c < 32 then [92, 117, 48, 48, hexS (c / 16), hexS (c % 16)]
  else encodeRune c
def bodyGoD : Nat → List UInt8 → List UInt8
  | 0, _ => []
  | n + 1, l => if l = [] then [] else escS (decodeL l).1 ++ bodyGoD n (l.drop (decodeL l).2)
def bodyD (l : List UInt8) : List UInt8 := bodyGoD l.length l
theorem bodyGoD_fuel : ∀ (n m : Nat) (l : List UInt8), l.length ≤ n → l.length ≤ m → bodyGoD n l = bodyGoD m l
  | 0, m, l, hn, _ => by
    have : l = [] := List.eq_nil_of_length_eq_zero (by omega); subst this; cases m <;> simp [bodyGoD]
  | n + 1, 0, l, _, hm => by
    have : l = [] := List.eq_nil_of_length_eq_zero (by omega); subst this; simp [bodyGoD]
  | n + 1, m + 1, l, hn, hm => by
    by_cases hne : l = []
    · subst hne; simp [bodyGoD]
    have hw := decodeL_width l; have hl : 0 < l.length := List.length_pos_iff.2 hne; simp only [bodyGoD, if_neg hne]; rw [bodyGoD_fuel n m _ (by rw [List.length_drop]; omega) (by rw [List.length_drop]; omega)]
theorem bodyD_nil : bodyD [] = [] := rfl
theorem bodyD_step (l : List UInt8) (hne : l ≠ []) : bodyD l = escS (decodeL l).1 ++ bodyD (l.drop (decodeL l).2) := by
  have hw := decodeL_width l; have hl : 0 < l.length := List.length_pos_iff.2 hne; unfold bodyD; obtain ⟨n, hn⟩ : ∃ n, l.length = n + 1 := ⟨l.length - 1, by omega⟩
  rw [hn]; simp only [bodyGoD, if_neg hne]; rw [bodyGoD_fuel n _ _ (by rw [List.length_drop]; omega) (Nat.le_refl _)]
theorem encodeRune_le (r : Int) : (encodeRune r).length ≤ 4 := by
  unfold encodeRune encodeRuneZ; rw [List.length_map]; repeat' split
  all_goals simp
theorem escS_le (c : Nat) : (escS c).length ≤ 6 := by
  unfold escS; have := encodeRune_le (c : Int); repeat' split
  all_goals first | (simp; done) | omega
theorem bodyD_le (l : List UInt8) : (bodyD l).length ≤ 6 * l.length := by
  suffices ∀ n (l : List UInt8), (bodyGoD n l).length ≤ 6 * l.length by exact this _ _
  intro n; induction n with
  | zero => intro l; simp [bodyGoD]
  | succ n ih =>
    intro l; unfold bodyGoD; split
    · simp
    rename_i hne
    have hw := decodeL_width l; have hl : 0 < l.length := List.length_pos_iff.2 hne; have h1 := ih (l.drop (decodeL l).2); have h2 := escS_le (decodeL l).1; have h3 := decodeL_le l hne; rw [List.length_append]; rw [List.length_drop] at h1; omega
def quoteD (l : List UInt8) : List UInt8 := 34 :: bodyD l ++ [34]
end Th
namespace Th
open Go Go.Lib
inductive JV where
  | mk (k m e : Int) (s : ByteArray) (l : List JV) (ks : List ByteArray)
mutual
def sameJ : JV → JV → Bool
  | .mk k m e s l ks, .mk k' m' e' s' l' ks' => decide (k = k') && decide (m = m') && decide (e = e') && decide (s = s') && decide (ks = ks') && sameL l l'
def sameL : List JV → List JV → Bool
  | [], [] => true
  | v :: r, v' :: r' => sameJ v v' && sameL r r'
  | _, _ => false
end
section
variable (T : Int → Int → List UInt8)
theorem quoteD_le (l : List UInt8) : (quoteD l).length ≤ 6 * l.length + 2 := by
  have := bodyD_le l; unfold quoteD; simp only [List.cons_append, List.length_cons, List.length_append, List.length_nil]; omega
end
end Th
namespace Th
open Go Go.Lib
section
variable (T : Int → Int → List UInt8)
end
end Th
namespace Th
open Go Go.Lib
/-! the law's own look at a text, byte by byte: in quotes?, behind a backslash? -/
section
variable (T : Int → Int → List UInt8)
end
end Th
namespace Go.Proofs.YtakncilicoefdaaGreatDoor
open Go Go.RowKit Go.Proofs Th
theorem hasPrefix (s p : ByteArray) (w : World) : Calls Tryz.prog 84 #[.string s, .string p] w fun r w' => r = .returned (.bool (Lib.hasPrefix s.data.toList p.data.toList)) ∧ Below w.heap.size w w' :=
  calls_same (Tryz.strings_HasPrefix s p w)
theorem trimLeft (s : ByteArray) (w : World) : Calls Tryz.prog 159 #[.string s, .string ⟨#[48]⟩] w fun r w' => r = .returned (.string ⟨(Lib.trimLeftB s.data.toList 48).toArray⟩) ∧ Below w.heap.size w w' :=
  calls_same (Tryz.strings_TrimLeft_one s 48 (by decide) w)
theorem trimRight (s : ByteArray) (hs : s.size ≤ 9223372036854775807) (w : World) : Calls Tryz.prog 160 #[.string s, .string ⟨#[48]⟩] w fun r w' => r = .returned (.string ⟨(Lib.trimRightB s.data.toList 48).toArray⟩) ∧ Below w.heap.size w w' :=
  calls_same (Tryz.strings_TrimRight_one s 48 (by decide) w hs)
end Go.Proofs.YtakncilicoefdaaGreatDoor
namespace Th
def isDg (c : UInt8) : Bool := decide (48 ≤ c.toNat) && decide (c.toNat ≤ 57)
end Th
namespace Go.Proofs.YtakncilicoefdaaGreatDoor
open Go Go.RowKit Go.Proofs Th
def nd (m : Int) : Nat := Lib.nDigits m.natAbs
theorem nd_pos (m : Int) : 1 ≤ nd m := by
  unfold nd; by_cases h : m.natAbs < 10
  · rw [Lib.nDigits_small h]; omega
  rw [Lib.nDigits_big h]; omega
def sgn (m : Int) : List UInt8 := if m < 0 then [45] else []
def pad (m e : Int) : List UInt8 := if (nd m : Int) ≤ -e then List.replicate (1 - e - nd m).toNat 48 ++ Lib.decDigits m.natAbs else Lib.decDigits m.natAbs
def textN (m e : Int) : List UInt8 :=
  if 0 ≤ e ∧ (nd m : Int) + e ≤ 21 then sgn m ++ Lib.decDigits m.natAbs ++ List.replicate e.toNat 48
  else if e < 0 ∧ -20 ≤ e then sgn m ++ (pad m e).take ((pad m e).length + e).toNat ++ [46] ++ (pad m e).drop ((pad m e).length + e).toNat
  else sgn m ++ Lib.decDigits m.natAbs ++ [101] ++ Lib.itoa e
theorem itoa_len (e : Int) (h0 : -64 ≤ e) (h1 : e ≤ 64) : (Lib.itoa e).length ≤ 1000 := by
  have key : ∀ u : Nat, u ≤ 64 → (Lib.decDigits u).length ≤ 2 := by
    intro u hu; rw [Lib.decDigits_length]; by_cases h : u < 10
    · rw [Lib.nDigits_small h]; omega
    rw [Lib.nDigits_big h, Lib.nDigits_small (by omega)]; omega
  unfold Lib.itoa; split
  · have := key e.natAbs (by omega); simp; omega
  have := key e.toNat (by omega); omega
theorem dec_all (u : Nat) : AllDig (Lib.decDigits u) ∧ val (dgs (Lib.decDigits u)) = u := by
  induction u using Nat.strongRecOn with
  | ind u ih =>
    rw [Lib.decDigits]; split
    · rename_i h
      have e : (UInt8.ofNat (48 + u)).toNat = 48 + u := by rw [UInt8.toNat_ofNat']; omega
      refine ⟨fun c hc => ?_, ?_⟩
      · rw [List.mem_singleton] at hc; subst hc; omega
      show val [dg (UInt8.ofNat (48 + u))] = u
      unfold dg; rw [e]; simp [val]
    rename_i h
    obtain ⟨h1, h2⟩ := ih (u / 10) (by omega); have e : (UInt8.ofNat (48 + u % 10)).toNat = 48 + u % 10 := by rw [UInt8.toNat_ofNat']; omega
    refine ⟨fun c hc => ?_, ?_⟩
    · rcases List.mem_append.1 hc with hc | hc
      · exact h1 c hc
      rw [List.mem_singleton] at hc; subst hc; omega
    rw [dgs_append, show dgs [UInt8.ofNat (48 + u % 10)] = [dg (UInt8.ofNat (48 + u % 10))] from rfl, val_snoc, h2]; unfold dg; rw [e]; omega
theorem nDigits_ge (u : Nat) (h : u ≠ 0) : 10 ^ (Lib.nDigits u - 1) ≤ u := by
  induction u using Nat.strongRecOn with
  | ind u ih =>
    rw [Lib.nDigits]; split
    · simp; omega
    have := ih (u / 10) (by omega) (by omega); have hp : 1 ≤ Lib.nDigits (u / 10) := by
      rw [Lib.nDigits]; split <;> omega
    rw [show Lib.nDigits (u / 10) + 1 - 1 = (Lib.nDigits (u / 10) - 1) + 1 by omega, Nat.pow_succ]; omega
theorem nd_small {m e : Int} (h : right m e = true) : nd m ≤ 18 := by
  unfold nd; have hs := right_size h; by_cases h0 : m.natAbs = 0
  · rw [h0, Lib.nDigits_small (by omega)]; omega
  have h1 := nDigits_ge m.natAbs h0; have h2 : (10 : Nat) ^ (Lib.nDigits m.natAbs - 1) < 10 ^ 18 := by omega
  have := (Nat.pow_lt_pow_iff_right (a := 10) (by omega)).1 h2; omega
end Go.Proofs.YtakncilicoefdaaGreatDoor
