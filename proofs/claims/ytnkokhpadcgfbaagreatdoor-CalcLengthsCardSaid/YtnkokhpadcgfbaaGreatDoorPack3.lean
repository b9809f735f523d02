/- Lemmas and contracts for the laws CalcLengths, part 3 of 37: Types, ValMath, Lib, TextMath. Conditions: those that each lemma names. -/
import Derived.Test.YtnkokhpadcgfbaaGreatDoorProg
import Derived.Test.YtnkokhpadcgfbaaGreatDoorPack1
import Derived.Test.YtnkokhpadcgfbaaGreatDoorPack2
import Derived.Laws.StructEq
import Derived.Lib.ValidU
import Derived.Lib.MapLaws
import GoSem.Op.String
import Derived.Shelf.Spec.BitsCarry
import Derived.Lib.Hide
import Derived.Lib.ItoaNum
import Derived.Lib.Bytealg
namespace Go.Proofs.YtnkokhpadcgfbaaGreatDoor
open Go Go.RowKit Go.Proofs Th
set_option maxRecDepth 100000 in
theorem eq_num (a b c d : Int) (w : World) : (Op.equalIn 10000 23 (.agg #[.int .i64 a, .int .i64 b]) (.agg #[.int .i64 c, .int .i64 d])).run Tryz.prog w = .ok (a == c && b == d) w := by
  have u3 := Tryz.underlying3
  have a3 := Tryz.isAgg3
  have z3 := Tryz.sizeOf3
  have u2 := Tryz.underlying2
  have a2 := Tryz.isAgg2
  have z2 := Tryz.sizeOf2
  have hS : Tryz.prog.underlying 23 = some (.struct (Tryz.prog.fieldsOf 23)) := by kernel_rfl
  have hp : Tryz.prog.stoodInHeld 23 = false := by kernel_rfl
  rw [show (10000 : Nat) = 9999 + 1 from rfl, run_equalIn_agg w 9999 23 _ _ hS hp]
  simp only [Program.fieldsOf, Tryz.underlying23]
  go_simp
  by_cases h1 : a = c <;> by_cases h2 : b = d <;> simp [h1, h2]
@[go_sem ↓] theorem eql_num (a b c d : Int) (w : World) : (binOp .eql 23 (.agg #[.int .i64 a, .int .i64 b]) (.agg #[.int .i64 c, .int .i64 d])).run Tryz.prog w = .ok (.bool (a == c && b == d)) w := by
  rw [run_eql_struct, eq_num]; rfl
@[go_sem ↓] theorem neq_num (a b c d : Int) (w : World) : (binOp .neq 23 (.agg #[.int .i64 a, .int .i64 b]) (.agg #[.int .i64 c, .int .i64 d])).run Tryz.prog w = .ok (.bool (!(a == c && b == d))) w := by
  rw [run_neq_struct, eq_num]; rfl
end Go.Proofs.YtnkokhpadcgfbaaGreatDoor
namespace Th
open Go Go.Lib
theorem size_listU (s : ByteArray) : s.data.toList.length = s.size := by simp
def badD (l : List UInt8) : Prop := (decodeL l).1 = 65533 ∧ (decodeL l).2 = 1
instance (l : List UInt8) : Decidable (badD l) := by unfold badD; infer_instance
/-! texts, character by character -/
theorem validGoD_fuel : ∀ (n m : Nat) (l : List UInt8), l.length ≤ n → l.length ≤ m → validGoD n l = validGoD m l
  | 0, m, l, hn, _ => by
    have : l = [] := List.eq_nil_of_length_eq_zero (by omega)
    subst this
    cases m <;> simp [validGoD]
  | n + 1, 0, l, _, hm => by
    have : l = [] := List.eq_nil_of_length_eq_zero (by omega)
    subst this
    simp [validGoD]
  | n + 1, m + 1, l, hn, hm => by
    by_cases hne : l = []
    · subst hne; simp [validGoD]
    · have hw := decodeL_width l
      have hl : 0 < l.length := List.length_pos_iff.2 hne
      simp only [validGoD, if_neg hne]
      rw [validGoD_fuel n m _ (by rw [List.length_drop]; omega) (by rw [List.length_drop]; omega)]
theorem validD_nil : validD [] = true := rfl
theorem validD_step (l : List UInt8) (hne : l ≠ []) : validD l = if badD l then false else validD (l.drop (decodeL l).2) := by
  have hw := decodeL_width l
  have hl : 0 < l.length := List.length_pos_iff.2 hne
  unfold validD badD
  obtain ⟨n, hn⟩ : ∃ n, l.length = n + 1 := ⟨l.length - 1, by omega⟩
  rw [hn]
  simp only [validGoD, if_neg hne]
  rw [validGoD_fuel n _ _ (by rw [List.length_drop]; omega) (Nat.le_refl _)]
def hexS (n : Nat) : UInt8 := if n < 10 then UInt8.ofNat (48 + n) else UInt8.ofNat (87 + n)
def escS (c : Nat) : List UInt8 :=
  if c = 34 ∨ c = 92 then [92, UInt8.ofNat c]
  else if c = 8 then [92, 98] else if c = 9 then [92, 116] else if c = 10 then [92, 110] else if c = 12 then [92, 102] else if c = 13 then [92, 114]
  else if c < 32 then [92, 117, 48, 48, hexS (c / 16), hexS (c % 16)]
  else encodeRune c
def bodyGoD : Nat → List UInt8 → List UInt8
  | 0, _ => []
  | n + 1, l => if l = [] then [] else escS (decodeL l).1 ++ bodyGoD n (l.drop (decodeL l).2)
def bodyD (l : List UInt8) : List UInt8 := bodyGoD l.length l
theorem bodyGoD_fuel : ∀ (n m : Nat) (l : List UInt8), l.length ≤ n → l.length ≤ m → bodyGoD n l = bodyGoD m l
  | 0, m, l, hn, _ => by
    have : l = [] := List.eq_nil_of_length_eq_zero (by omega)
    subst this
    cases m <;> simp [bodyGoD]
  | n + 1, 0, l, _, hm => by
    have : l = [] := List.eq_nil_of_length_eq_zero (by omega)
    subst this
    simp [bodyGoD]
  | n + 1, m + 1, l, hn, hm => by
    by_cases hne : l = []
    · subst hne; simp [bodyGoD]
    · have hw := decodeL_width l
      have hl : 0 < l.length := List.length_pos_iff.2 hne
      simp only [bodyGoD, if_neg hne]
      rw [bodyGoD_fuel n m _ (by rw [List.length_drop]; omega) (by rw [List.length_drop]; omega)]
theorem bodyD_nil : bodyD [] = [] := rfl
theorem bodyD_step (l : List UInt8) (hne : l ≠ []) : bodyD l = escS (decodeL l).1 ++ bodyD (l.drop (decodeL l).2) := by
  have hw := decodeL_width l
  have hl : 0 < l.length := List.length_pos_iff.2 hne
  unfold bodyD
  obtain ⟨n, hn⟩ : ∃ n, l.length = n + 1 := ⟨l.length - 1, by omega⟩
  rw [hn]
  simp only [bodyGoD, if_neg hne]
  rw [bodyGoD_fuel n _ _ (by rw [List.length_drop]; omega) (Nat.le_refl _)]
theorem encodeRune_le (r : Int) : (encodeRune r).length ≤ 4 := by
  unfold encodeRune encodeRuneZ
  rw [List.length_map]
  repeat' split
  all_goals simp
theorem escS_le (c : Nat) : (escS c).length ≤ 6 := by
  unfold escS
  have := encodeRune_le (c : Int)
  repeat' split
  all_goals first | (simp; done) | omega
theorem bodyD_le (l : List UInt8) : (bodyD l).length ≤ 6 * l.length := by
  suffices ∀ n (l : List UInt8), (bodyGoD n l).length ≤ 6 * l.length by exact this _ _
  intro n
  induction n with
  | zero => intro l; simp [bodyGoD]
  | succ n ih =>
    intro l
    unfold bodyGoD
    split
    · simp
    · rename_i hne
      have hw := decodeL_width l
      have hl : 0 < l.length := List.length_pos_iff.2 hne
      have h1 := ih (l.drop (decodeL l).2)
      have h2 := escS_le (decodeL l).1
      have h3 := decodeL_le l hne
      rw [List.length_append]
      rw [List.length_drop] at h1
      omega
def quoteD (l : List UInt8) : List UInt8 := 34 :: bodyD l ++ [34]
end Th
namespace Th
open Go Go.Lib
inductive JV where
  | mk (k m e : Int) (s : ByteArray) (l : List JV) (ks : List ByteArray)
def keysN : List ByteArray → Nat
  | [] => 0
  | k :: r => 1 + k.size + keysN r
mutual
/-- how many values and bytes it has -/
def sizeJ : JV → Nat
  | .mk _ _ _ s l ks => 1 + s.size + keysN ks + sizeL l
def sizeL : List JV → Nat
  | [] => 0
  | v :: r => sizeJ v + sizeL r
end
mutual
def depthJ : JV → Nat
  | .mk _ _ _ _ l _ => 1 + depthL l
def depthL : List JV → Nat
  | [] => 0
  | v :: r => max (depthJ v) (depthL r)
end
mutual
def countJ : JV → Nat
  | .mk _ _ _ _ l _ => 1 + countL l
def countL : List JV → Nat
  | [] => 0
  | v :: r => countJ v + countL r
end
def riseK : List ByteArray → Bool
  | [] => true
  | [a] => validD a.data.toList
  | a :: b :: r => validD a.data.toList && Op.bytesLess a.data.toList b.data.toList && riseK (b :: r)
def okOne : JV → Bool
  | .mk k m e s l ks => decide (0 ≤ k ∧ k ≤ 6) && (decide (k = 3) || (decide (m = 0) && decide (e = 0))) && (decide (k = 4) || decide (s.size = 0)) && (decide (5 ≤ k) || decide (l.length = 0)) && (decide (k = 6) || decide (ks.length = 0)) &&
    (decide (k ≠ 6) || decide (ks.length = l.length)) && right m e && validD s.data.toList && riseK ks
mutual
def allJ : JV → Bool
  | .mk k m e s l ks => okOne (.mk k m e s l ks) && allL l
def allL : List JV → Bool
  | [] => true
  | v :: r => allJ v && allL r
end
def rightJ (v : JV) : Int := if 48 < depthJ v then 31 else if allJ v then 0 else 30
mutual
def sameJ : JV → JV → Bool
  | .mk k m e s l ks, .mk k' m' e' s' l' ks' => decide (k = k') && decide (m = m') && decide (e = e') && decide (s = s') && decide (ks = ks') && sameL l l'
def sameL : List JV → List JV → Bool
  | [], [] => true
  | v :: r, v' :: r' => sameJ v v' && sameL r r'
  | _, _ => false
end
mutual
theorem sameJ_iff : ∀ a b : JV, sameJ a b = true ↔ a = b
  | .mk k m e s l ks, .mk k' m' e' s' l' ks' => by
    simp only [sameJ, Bool.and_eq_true, decide_eq_true_eq, sameL_iff l l', JV.mk.injEq]
    constructor
    · rintro ⟨⟨⟨⟨⟨rfl, rfl⟩, rfl⟩, rfl⟩, rfl⟩, rfl⟩; exact ⟨rfl, rfl, rfl, rfl, rfl, rfl⟩
    · rintro ⟨rfl, rfl, rfl, rfl, rfl, rfl⟩; exact ⟨⟨⟨⟨⟨rfl, rfl⟩, rfl⟩, rfl⟩, rfl⟩, rfl⟩
theorem sameL_iff : ∀ a b : List JV, sameL a b = true ↔ a = b
  | [], [] => by simp [sameL]
  | [], _ :: _ => by simp [sameL]
  | _ :: _, [] => by simp [sameL]
  | v :: r, v' :: r' => by
    simp only [sameL, Bool.and_eq_true, sameJ_iff v v', sameL_iff r r', List.cons.injEq]
end
theorem sameJ_self (a : JV) : sameJ a a = true := (sameJ_iff a a).2 rfl
section
variable (T : Int → Int → List UInt8)
mutual
/-- a value's text -/
def textJ : JV → List UInt8
  | .mk k m e s l ks => if k = 0 then [110, 117, 108, 108] else if k = 1 then [102, 97, 108, 115, 101] else if k = 2 then [116, 114, 117, 101]
    else if k = 3 then T m e else if k = 4 then quoteD s.data.toList
    else if k = 5 then 91 :: textL true false l [] ++ [93] else 123 :: textL true true l ks ++ [125]
def textL (first named : Bool) : List JV → List ByteArray → List UInt8
  | [], _ => []
  | v :: r, ks => (if first then [] else [44]) ++ (if named then quoteD (ks.headD ⟨#[]⟩).data.toList ++ [58] else []) ++ textJ v ++ textL false named r (ks.drop 1)
end
theorem quoteD_le (l : List UInt8) : (quoteD l).length ≤ 6 * l.length + 2 := by
  have := bodyD_le l
  unfold quoteD
  simp only [List.cons_append, List.length_cons, List.length_append, List.length_nil]
  omega
theorem keysN_head (ks : List ByteArray) : (ks.headD ⟨#[]⟩).size + keysN (ks.drop 1) ≤ keysN ks := by
  cases ks with
  | nil => show 0 + 0 ≤ 0; omega
  | cons k r => show k.size + keysN r ≤ 1 + k.size + keysN r; omega
mutual
theorem textJ_le (hT : ∀ m e, (T m e).length ≤ 3000) : ∀ v : JV, (textJ T v).length + 500 ≤ 4000 * sizeJ v
  | .mk k m e s l ks => by
    have h1 := hT m e
    have h2 := quoteD_le s.data.toList
    rw [size_listU] at h2
    have h3 := textL_le hT true false l []
    have h4 := textL_le hT true true l ks
    simp only [textJ, sizeJ]
    simp only [keysN] at h3
    repeat' split
    all_goals first
      | (simp only [List.cons_append, List.length_cons, List.length_append, List.length_nil]; omega)
      | omega
theorem textL_le (hT : ∀ m e, (T m e).length ≤ 3000) (first named : Bool) : ∀ (l : List JV) (ks : List ByteArray), (textL T first named l ks).length ≤ 4000 * sizeL l + 10 * keysN ks
  | [], ks => by simp [textL]
  | v :: r, ks => by
    have h1 := textJ_le hT v
    have h2 := textL_le hT false named r (ks.drop 1)
    have h3 := quoteD_le (ks.headD ⟨#[]⟩).data.toList
    have h4 := keysN_head ks
    rw [size_listU] at h3
    simp only [textL, sizeL, List.length_append]
    have h5 : (if first = true then ([] : List UInt8) else [44]).length ≤ 1 := by split <;> simp
    have h6 : (if named = true then quoteD (ks.headD ⟨#[]⟩).data.toList ++ [58] else []).length ≤ 6 * (ks.headD ⟨#[]⟩).size + 3 := by
      split
      · rw [List.length_append, List.length_singleton]; omega
      · simp
    omega
end
end
end Th
namespace Th
open Go Go.Lib
section
variable (T : Int → Int → List UInt8)
theorem textL_append (named : Bool) : ∀ (a : List JV) (first : Bool) (ks : List ByteArray) (b : List JV), textL T first named (a ++ b) ks = textL T first named a ks ++ textL T (first && a.isEmpty) named b (ks.drop a.length)
  | [], first, ks, b => by simp [textL]
  | v :: a, first, ks, b => by
    simp only [List.cons_append, textL, textL_append named a false (ks.drop 1) b, List.isEmpty_cons, Bool.and_false, Bool.false_and, List.drop_drop, List.length_cons, List.append_assoc]
    rw [Nat.add_comm 1 a.length]
theorem textL_take (named : Bool) (l : List JV) (ks : List ByteArray) (j : Nat) (h : j < l.length) :
    textL T true named (l.take (j + 1)) ks = textL T true named (l.take j) ks ++ (if j = 0 then [] else [44]) ++ (if named then quoteD (ks.getD j ⟨#[]⟩).data.toList ++ [58] else []) ++ textJ T l[j] := by
  rw [List.take_succ_eq_append_getElem h, textL_append]
  have hl : (l.take j).length = j := by rw [List.length_take]; omega
  have he : (true && (l.take j).isEmpty) = decide (j = 0) := by
    cases j with
    | zero => simp
    | succ j =>
      cases l with
      | nil => simp at h
      | cons x l => simp
  rw [he, hl]
  simp only [textL, List.append_nil, List.append_assoc]
  congr 1
  have hk : (ks.drop j).headD ⟨#[]⟩ = ks.getD j ⟨#[]⟩ := by
    rw [List.headD_eq_head?_getD, List.head?_drop, List.getD_eq_getElem?_getD]
  rw [hk]
  by_cases h0 : j = 0 <;> simp [h0]
theorem textL_le_take (named : Bool) (l : List JV) (ks : List ByteArray) (j : Nat) : (textL T true named (l.take j) ks).length ≤ (textL T true named l ks).length := by
  have h := textL_append T named (l.take j) true ks (l.drop j)
  rw [List.take_append_drop] at h
  rw [h, List.length_append]; omega
theorem textJ_list (k m e : Int) (s : ByteArray) (l : List JV) (ks : List ByteArray) (h : k = 5) : textJ T (.mk k m e s l ks) = 91 :: textL T true false l ks ++ [93] := by
  subst h
  have : ∀ (f : Bool) (l : List JV) (ks ks' : List ByteArray), textL T f false l ks = textL T f false l ks' := by
    intro f l
    induction l generalizing f with
    | nil => intro _ _; rfl
    | cons x l ih => intro ks ks'; simp only [textL]; rw [ih false (ks.drop 1) (ks'.drop 1)]; rfl
  simp only [textJ]
  rw [if_neg (by omega), if_neg (by omega), if_neg (by omega), if_neg (by omega), if_neg (by omega), if_pos True.intro, this true l [] ks]
theorem textJ_map (k m e : Int) (s : ByteArray) (l : List JV) (ks : List ByteArray) (h : k = 6) : textJ T (.mk k m e s l ks) = 123 :: textL T true true l ks ++ [125] := by
  subst h
  simp only [textJ]
  rw [if_neg (by omega), if_neg (by omega), if_neg (by omega), if_neg (by omega), if_neg (by omega), if_neg (by omega)]
end
end Th
namespace Th
open Go Go.Lib
theorem decodeN_mono (n n' b0 b1 b2 b3 c1 c2 c3 : Nat) (hn : n ≤ n') (h1 : 1 < n → c1 = b1) (h2 : 2 < n → c2 = b2) (h3 : 3 < n → c3 = b3) (hb : decodeN n b0 b1 b2 b3 ≠ (65533, 1)) : decodeN n' b0 c1 c2 c3 = decodeN n b0 b1 b2 b3 := by
  rcases decodeN_shape n b0 b1 b2 b3 with ⟨c, e⟩ | ⟨d1, d2, d3, cv, e⟩ | ⟨d1, d2, d3, d4, cv, cs, e⟩ | ⟨d1, d2, d3, d4, d5, cv, cw, e⟩ | e
  · rw [e]; unfold decodeN; rw [if_pos c]
  · rw [e]; obtain rfl := h1 d2; unfold decodeN
    rw [if_neg (by omega), if_pos ⟨d1, by omega, d3⟩, if_pos (by omega)]
  · rw [e]; obtain rfl := h1 (by omega); obtain rfl := h2 d2; unfold decodeN
    rw [if_neg (by omega), if_neg (by omega), if_pos ⟨d1, ⟨by omega, d3⟩, by omega, d4⟩, if_pos (by omega)]
  · rw [e]; obtain rfl := h1 (by omega); obtain rfl := h2 (by omega); obtain rfl := h3 d2; unfold decodeN
    rw [if_neg (by omega), if_neg (by omega), if_neg (by omega), if_pos ⟨d1, ⟨by omega, d3⟩, ⟨by omega, d4⟩, by omega, d5⟩, if_pos (by omega)]
  · exact absurd e hb
theorem getD_appendU (a b : List UInt8) (k : Nat) (h : k < a.length) : (a ++ b).getD k 0 = a.getD k 0 := by simp [List.getD, List.getElem?_append_left h]
theorem decode_append (a b : List UInt8) (hne : a ≠ []) (hb : ¬ badD a) : decodeL (a ++ b) = decodeL a := by
  have hl : 0 < a.length := List.length_pos_iff.2 hne
  unfold badD at hb
  rw [decodeL_N] at hb
  rw [decodeL_N, decodeL_N, getD_appendU a b 0 hl]
  refine decodeN_mono _ _ _ _ _ _ _ _ _ (by simp) (fun h => by rw [getD_appendU a b 1 h]) (fun h => by rw [getD_appendU a b 2 h]) (fun h => by rw [getD_appendU a b 3 h]) (fun h => hb ?_)
  rw [h]; exact ⟨rfl, rfl⟩
/-! the law's own look at a text, byte by byte: in quotes?, behind a backslash? -/
section
variable (T : Int → Int → List UInt8)
end
end Th
namespace Go.Proofs.YtnkokhpadcgfbaaGreatDoor
open Go Go.RowKit Go.Proofs Th
theorem mul64 (x y : Int) (x0 : 0 ≤ x) (x1 : x < 18446744073709551616) (y0 : 0 ≤ y) (y1 : y < 18446744073709551616) (w : World) : Calls Tryz.prog 71 #[.int .u64 x, .int .u64 y] w fun r w' =>
    r = .returned (.tuple #[.int .u64 (mhi x y), .int .u64 (mlo x y)]) ∧ Below w.heap.size w w' := by
  obtain ⟨x, rfl⟩ := Int.eq_ofNat_of_zero_le x0
  obtain ⟨y, rfl⟩ := Int.eq_ofNat_of_zero_le y0
  have := calls_same (Tryz.bits_Mul64 x y (by omega) (by omega) w)
  refine this.mono ?_
  rintro e w' ⟨rfl, hb⟩
  refine ⟨?_, hb⟩
  unfold mhi mlo
  congr 5
def renAdd : Go.Shelf.Ren := ⟨fun | 25 => 111 | n => n, fun | 22 => 32 | n => n, fun | n => n⟩
theorem laysAdd : Lays7.n25 Tryz.prog renAdd :=
  { mixed := by kernel_rfl, f25 := Tryz.func111.trans (congrArg some (by kernel_rfl)), t22 := Tryz.underlying32, a22 := Tryz.isAgg32, z22 := Tryz.sizeOf32, v22 := Tryz.zeroValue32, i22 := by kernel_rfl }
def renSub : Go.Shelf.Ren := ⟨fun | 26 => 112 | n => n, fun | 22 => 32 | n => n, fun | n => n⟩
theorem laysSub : Lays7.n26 Tryz.prog renSub :=
  { mixed := by kernel_rfl, f26 := Tryz.func112.trans (congrArg some (by kernel_rfl)), t22 := Tryz.underlying32, a22 := Tryz.isAgg32, z22 := Tryz.sizeOf32, v22 := Tryz.zeroValue32, i22 := by kernel_rfl }
theorem add64_0 (x y : Int) (hx : 0 ≤ x) (hy : 0 ≤ y) (w : World) : (callFunc 111 #[.int .u64 x, .int .u64 y, .int .u64 0]).run Tryz.prog w =
    .ok (.value (.tuple #[.int .u64 (alo x y), .int .u64 (ahi x y)])) w := by
  obtain ⟨x, rfl⟩ := Int.eq_ofNat_of_zero_le hx
  obtain ⟨y, rfl⟩ := Int.eq_ofNat_of_zero_le hy
  refine (Any7.bits_Add64 laysAdd x y 0 (by omega) w).trans ?_
  unfold alo ahi
  congr 5 <;> omega
theorem sub64_0 (x y : Int) (hx : 0 ≤ x) (hy : 0 ≤ y) (hy' : y < 18446744073709551616) (w : World) : (callFunc 112 #[.int .u64 x, .int .u64 y, .int .u64 0]).run Tryz.prog w =
    .ok (.value (.tuple #[.int .u64 (slo x y), .int .u64 (shi x y)])) w := by
  obtain ⟨x, rfl⟩ := Int.eq_ofNat_of_zero_le hx
  obtain ⟨y, rfl⟩ := Int.eq_ofNat_of_zero_le hy
  have e1 : (((x + 18446744073709551616 - y - 0) % 18446744073709551616 : Nat) : Int) = slo (x : Int) y := by unfold slo; omega
  have e2 : ((if x < y + 0 then 1 else 0 : Nat) : Int) = shi (x : Int) y := by unfold shi; split <;> split <;> omega
  rw [← e1, ← e2]
  exact Any7.bits_Sub64 laysSub x y 0 (by omega) w
end Go.Proofs.YtnkokhpadcgfbaaGreatDoor
namespace Go.Proofs.YtnkokhpadcgfbaaGreatDoor
open Go Go.RowKit Go.Proofs Th
def nd (m : Int) : Nat := Lib.nDigits m.natAbs
theorem nd_pos (m : Int) : 1 ≤ nd m := by
  unfold nd
  by_cases h : m.natAbs < 10
  · rw [Lib.nDigits_small h]; omega
  · rw [Lib.nDigits_big h]; omega
def sgn (m : Int) : List UInt8 := if m < 0 then [45] else []
def pad (m e : Int) : List UInt8 := if (nd m : Int) ≤ -e then List.replicate (1 - e - nd m).toNat 48 ++ Lib.decDigits m.natAbs else Lib.decDigits m.natAbs
def textN (m e : Int) : List UInt8 :=
  if 0 ≤ e ∧ (nd m : Int) + e ≤ 21 then sgn m ++ Lib.decDigits m.natAbs ++ List.replicate e.toNat 48
  else if e < 0 ∧ -20 ≤ e then sgn m ++ (pad m e).take ((pad m e).length + e).toNat ++ [46] ++ (pad m e).drop ((pad m e).length + e).toNat
  else sgn m ++ Lib.decDigits m.natAbs ++ [101] ++ Lib.itoa e
theorem itoa_len (e : Int) (h0 : -64 ≤ e) (h1 : e ≤ 64) : (Lib.itoa e).length ≤ 1000 := by
  have key : ∀ u : Nat, u ≤ 64 → (Lib.decDigits u).length ≤ 2 := by
    intro u hu
    rw [Lib.decDigits_length]
    by_cases h : u < 10
    · rw [Lib.nDigits_small h]; omega
    · rw [Lib.nDigits_big h, Lib.nDigits_small (by omega)]; omega
  unfold Lib.itoa
  split
  · have := key e.natAbs (by omega); simp; omega
  · have := key e.toNat (by omega); omega
theorem dec_all (u : Nat) : AllDig (Lib.decDigits u) ∧ val (dgs (Lib.decDigits u)) = u := by
  induction u using Nat.strongRecOn with
  | ind u ih =>
    rw [Lib.decDigits]
    split
    · rename_i h
      have e : (UInt8.ofNat (48 + u)).toNat = 48 + u := by rw [UInt8.toNat_ofNat']; omega
      refine ⟨fun c hc => ?_, ?_⟩
      · rw [List.mem_singleton] at hc; subst hc; omega
      · show val [dg (UInt8.ofNat (48 + u))] = u
        unfold dg; rw [e]; simp [val]
    · rename_i h
      obtain ⟨h1, h2⟩ := ih (u / 10) (by omega)
      have e : (UInt8.ofNat (48 + u % 10)).toNat = 48 + u % 10 := by rw [UInt8.toNat_ofNat']; omega
      refine ⟨fun c hc => ?_, ?_⟩
      · rcases List.mem_append.1 hc with hc | hc
        · exact h1 c hc
        · rw [List.mem_singleton] at hc; subst hc; omega
      · rw [dgs_append, show dgs [UInt8.ofNat (48 + u % 10)] = [dg (UInt8.ofNat (48 + u % 10))] from rfl, val_snoc, h2]
        unfold dg; rw [e]; omega
theorem nDigits_ge (u : Nat) (h : u ≠ 0) : 10 ^ (Lib.nDigits u - 1) ≤ u := by
  induction u using Nat.strongRecOn with
  | ind u ih =>
    rw [Lib.nDigits]
    split
    · simp; omega
    · have := ih (u / 10) (by omega) (by omega)
      have hp : 1 ≤ Lib.nDigits (u / 10) := by
        rw [Lib.nDigits]; split <;> omega
      rw [show Lib.nDigits (u / 10) + 1 - 1 = (Lib.nDigits (u / 10) - 1) + 1 by omega, Nat.pow_succ]
      omega
theorem nd_small {m e : Int} (h : right m e = true) : nd m ≤ 18 := by
  unfold nd
  have hs := right_size h
  by_cases h0 : m.natAbs = 0
  · rw [h0, Lib.nDigits_small (by omega)]; omega
  · have h1 := nDigits_ge m.natAbs h0
    have h2 : (10 : Nat) ^ (Lib.nDigits m.natAbs - 1) < 10 ^ 18 := by omega
    have := (Nat.pow_lt_pow_iff_right (a := 10) (by omega)).1 h2
    omega
theorem text_short {m e : Int} (h : right m e = true) : (textN m e).length ≤ 3000 := by
  have h1 := nd_small h
  have hx := right_exp h
  have hi := itoa_len e hx.1 hx.2
  have hd : (Lib.decDigits m.natAbs).length ≤ 18 := by rw [Lib.decDigits_length]; exact h1
  have hs : (sgn m).length ≤ 1 := by unfold sgn; split <;> simp
  have hp : (pad m e).length ≤ 100 := by
    unfold pad; split
    · rw [List.length_append, List.length_replicate]; omega
    · omega
  unfold textN
  split
  · simp only [List.length_append, List.length_replicate]; omega
  · split
    · simp only [List.length_append, List.length_take, List.length_drop, List.length_cons, List.length_nil]; omega
    · simp only [List.length_append, List.length_cons, List.length_nil]; omega
end Go.Proofs.YtnkokhpadcgfbaaGreatDoor
