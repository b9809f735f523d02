/- Lemmas and contracts for the laws SyntaxPieces, part 2 of 48: Types, ValMath, Lib, RefMath, FormMath. Conditions: those that each lemma names. -/
import Derived.Test.YtinknjhclpaieaaGreatDoorProg
import Derived.Test.YtinknjhclpaieaaGreatDoorPq1
import Derived.Laws.StructEq
import Derived.Lib.ValidU
import Derived.Lib.MapLaws
import GoSem.Op.String
import Derived.Shelf.Spec.BitsCarry
import Derived.Lib.Hide
set_option maxRecDepth 100000
set_option maxHeartbeats 4000000
namespace Go.Proofs.YtinknjhclpaieaaGreatDoor
open Go Go.RowKit Go.Proofs Th
theorem eq_num (a b c d : Int) (w : World) : (Op.equalIn 10000 24 (.agg #[.int .i64 a, .int .i64 b]) (.agg #[.int .i64 c, .int .i64 d])).run Tryz.prog w = .ok (a == c && b == d) w := by
  have u3 := Tryz.underlying3; have a3 := Tryz.isAgg3; have z3 := Tryz.sizeOf3; have u2 := Tryz.underlying2; have a2 := Tryz.isAgg2; have z2 := Tryz.sizeOf2; have hS : Tryz.prog.underlying 24 = some (.struct (Tryz.prog.fieldsOf 24)) := by kernel_rfl
  have hp : Tryz.prog.stoodInHeld 24 = false := by kernel_rfl
  rw [show (10000 : Nat) = 9999 + 1 from rfl, run_equalIn_agg w 9999 24 _ _ hS hp]; simp only [Program.fieldsOf, Tryz.underlying24]; go_simp; by_cases h1 : a = c <;> by_cases h2 : b = d <;> simp [h1, h2]
@[go_sem ↓] theorem eql_num (a b c d : Int) (w : World) : (binOp .eql 24 (.agg #[.int .i64 a, .int .i64 b]) (.agg #[.int .i64 c, .int .i64 d])).run Tryz.prog w = .ok (.bool (a == c && b == d)) w := by
  rw [run_eql_struct, eq_num]; rfl
@[go_sem ↓] theorem neq_num (a b c d : Int) (w : World) : (binOp .neq 24 (.agg #[.int .i64 a, .int .i64 b]) (.agg #[.int .i64 c, .int .i64 d])).run Tryz.prog w = .ok (.bool (!(a == c && b == d))) w := by
  rw [run_neq_struct, eq_num]; rfl
end Go.Proofs.YtinknjhclpaieaaGreatDoor
namespace Th
open Go Go.Lib
theorem size_listU (s : ByteArray) : s.data.toList.length = s.size := by simp
def charS (c : Int) : List UInt8 := if c < 0 ∨ 1114111 < c ∨ (55296 ≤ c ∧ c ≤ 57343) then [] else encodeRune c
theorem charS_bad {c : Int} (h : c < 0 ∨ 1114111 < c ∨ (55296 ≤ c ∧ c ≤ 57343)) : charS c = [] := by unfold charS; rw [if_pos h]
theorem charS_one {c : Int} (h0 : 0 ≤ c) (h1 : c < 128) : charS c = [c.toNat.toUInt8] := by
  unfold charS encodeRune; rw [if_neg (by omega), encodeRuneZ_one h0 (by omega)]; rfl
theorem charS_two {c : Int} (h0 : 128 ≤ c) (h1 : c < 2048) : charS c = [(192 + c / 64).toNat.toUInt8, (128 + c % 64).toNat.toUInt8] := by
  unfold charS encodeRune; rw [if_neg (by omega), encodeRuneZ_two h0 (by omega)]; rfl
theorem charS_three {c : Int} (h0 : 2048 ≤ c) (h1 : c < 65536) (h2 : c < 55296 ∨ 57343 < c) : charS c = [(224 + c / 4096).toNat.toUInt8, (128 + c / 64 % 64).toNat.toUInt8, (128 + c % 64).toNat.toUInt8] := by
  unfold charS encodeRune; rw [if_neg (by omega), encodeRuneZ_three (by omega)]; rfl
theorem charS_four {c : Int} (h0 : 65536 ≤ c) (h1 : c ≤ 1114111) : charS c = [(240 + c / 262144).toNat.toUInt8, (128 + c / 4096 % 64).toNat.toUInt8, (128 + c / 64 % 64).toNat.toUInt8, (128 + c % 64).toNat.toUInt8] := by
  unfold charS encodeRune; rw [if_neg (by omega), encodeRuneZ_four h0 h1]; rfl
def badD (l : List UInt8) : Prop := (decodeL l).1 = 65533 ∧ (decodeL l).2 = 1
instance (l : List UInt8) : Decidable (badD l) := by unfold badD; infer_instance
def firstS (l : List UInt8) : Nat × Nat := if l = [] ∨ badD l then (0, 0) else decodeL l
def candS (l : List UInt8) (n : Nat) : Int :=
  match n with
  | 1 => (l.getD 0 0).toNat
  | 2 => ((l.getD 0 0).toNat - 192) * 64 + (l.getD 1 0).toNat - 128
  | 3 => (((l.getD 0 0).toNat - 224) * 64 + (l.getD 1 0).toNat - 128) * 64 + (l.getD 2 0).toNat - 128
  | _ => ((((l.getD 0 0).toNat - 240) * 64 + (l.getD 1 0).toNat - 128) * 64 + (l.getD 2 0).toNat - 128) * 64 + (l.getD 3 0).toNat - 128
theorem byteN {z : Int} (h0 : 0 ≤ z) (h1 : z < 256) {x : UInt8} (h : z.toNat.toUInt8 = x) : z = (x.toNat : Int) := by
  subst h; have : z.toNat.toUInt8.toNat = z.toNat := by
    show (UInt8.ofNat z.toNat).toNat = z.toNat
    simp; omega
  rw [this]; omega
theorem cand_iff (l : List UInt8) (n : Nat) (h1 : 1 ≤ n) (h4 : n ≤ 4) (hl : n ≤ l.length) : charS (candS l n) = l.take n ↔ (¬ badD l ∧ (decodeL l).2 = n) := by
  have k0 := (l.getD 0 0).toNat_lt; have k1 := (l.getD 1 0).toNat_lt; have k2 := (l.getD 2 0).toNat_lt; have k3 := (l.getD 3 0).toNat_lt; have hne : l ≠ [] := by rintro rfl; simp at hl; omega
  constructor
  · intro h
    unfold badD; rw [decodeL_N]; have hn : n = 1 ∨ n = 2 ∨ n = 3 ∨ n = 4 := by omega
    have hcs : (candS l n < 0 ∨ 1114111 < candS l n ∨ (55296 ≤ candS l n ∧ candS l n ≤ 57343)) ∨ (0 ≤ candS l n ∧ candS l n < 128) ∨ (128 ≤ candS l n ∧ candS l n < 2048) ∨ (2048 ≤ candS l n ∧ candS l n < 65536 ∧ (candS l n < 55296 ∨ 57343 < candS l n)) ∨ (65536 ≤ candS l n ∧ candS l n ≤ 1114111) := by omega
    have hlen : (charS (candS l n)).length = n := by rw [h, List.length_take]; omega
    rcases hcs with hc | ⟨ha, hb⟩ | ⟨ha, hb⟩ | ⟨ha, hb, hc⟩ | ⟨ha, hb⟩
    · rw [charS_bad hc] at hlen; simp at hlen; omega
    · rw [charS_one ha hb] at hlen h
      obtain rfl : n = 1 := by simpa using hlen.symm
      rw [takeA l (by omega)] at h; injection h with e0; have e0 := byteN ha (by omega) e0; have : (l.getD 0 0).toNat < 128 := by omega
      rw [show decodeN l.length (l.getD 0 0).toNat (l.getD 1 0).toNat (l.getD 2 0).toNat (l.getD 3 0).toNat = ((l.getD 0 0).toNat, 1) by unfold decodeN; rw [if_pos this]]; exact ⟨fun h => by have := h.1; dsimp only at this; omega, rfl⟩
    · rw [charS_two ha hb] at hlen h
      obtain rfl : n = 2 := by simpa using hlen.symm
      rw [takeB l (by omega)] at h; injection h with e0 h; injection h with e1 h; have e0 := byteN (by omega) (by omega) e0; have e1 := byteN (by omega) (by omega) e1; simp only [candS] at e0 e1 ha hb; rcases decodeN_shape l.length (l.getD 0 0).toNat (l.getD 1 0).toNat (l.getD 2 0).toNat (l.getD 3 0).toNat with ⟨c, e⟩ | ⟨c1, c2, c3, cv, e⟩ | ⟨c1, c2, c3, c4, cv, cs, e⟩ | ⟨c1, c2, c3, c4, c5, cv, cw, e⟩ | e
      · omega
      · rw [e]; exact ⟨fun h => by have := h.2; dsimp only at this; omega, rfl⟩
      · omega
      · omega
      exfalso; unfold decodeN at e; rw [if_neg (by omega), if_pos (by omega), if_pos (by omega)] at e; injection e with e e2; omega
    · rw [charS_three ha hb hc] at hlen h
      obtain rfl : n = 3 := by simpa using hlen.symm
      rw [takeC l (by omega)] at h; injection h with e0 h; injection h with e1 h; injection h with e2 h; have e0 := byteN (by omega) (by omega) e0; have e1 := byteN (by omega) (by omega) e1; have e2 := byteN (by omega) (by omega) e2; simp only [candS] at e0 e1 e2 ha hb hc; rcases decodeN_shape l.length (l.getD 0 0).toNat (l.getD 1 0).toNat (l.getD 2 0).toNat (l.getD 3 0).toNat with ⟨c, e⟩ | ⟨c1, c2, c3, cv, e⟩ | ⟨c1, c2, c3, c4, cv, cs, e⟩ | ⟨c1, c2, c3, c4, c5, cv, cw, e⟩ | e
      · omega
      · omega
      · rw [e]; exact ⟨fun h => by have := h.2; dsimp only at this; omega, rfl⟩
      · omega
      exfalso; unfold decodeN at e; rw [if_neg (by omega), if_neg (by omega), if_pos (by omega), if_pos (by omega)] at e; injection e with e e2; omega
    rw [charS_four ha hb] at hlen h; obtain rfl : n = 4 := by simpa using hlen.symm
    rw [takeD l (by omega)] at h; injection h with e0 h; injection h with e1 h; injection h with e2 h; injection h with e3 h; have e0 := byteN (by omega) (by omega) e0; have e1 := byteN (by omega) (by omega) e1; have e2 := byteN (by omega) (by omega) e2; have e3 := byteN (by omega) (by omega) e3; simp only [candS] at e0 e1 e2 e3 ha hb; rcases decodeN_shape l.length (l.getD 0 0).toNat (l.getD 1 0).toNat (l.getD 2 0).toNat (l.getD 3 0).toNat with ⟨c, e⟩ | ⟨c1, c2, c3, cv, e⟩ | ⟨c1, c2, c3, c4, cv, cs, e⟩ | ⟨c1, c2, c3, c4, c5, cv, cw, e⟩ | e
    · omega
    · omega
    · omega
    · rw [e]; exact ⟨fun h => by have := h.2; dsimp only at this; omega, rfl⟩
    exfalso; unfold decodeN at e; rw [if_neg (by omega), if_neg (by omega), if_neg (by omega), if_pos (by omega), if_pos (by omega)] at e; injection e with e e2; omega
  rintro ⟨hb, hn⟩; have he := encode_decode l hne hb; have key : candS l n = ((decodeL l).1 : Int) ∧ ¬ (((decodeL l).1 : Int) < 0 ∨ 1114111 < ((decodeL l).1 : Int) ∨ (55296 ≤ ((decodeL l).1 : Int) ∧ ((decodeL l).1 : Int) ≤ 57343)) := by
    unfold badD at hb; rw [decodeL_N] at hb hn ⊢; rcases decodeN_shape l.length (l.getD 0 0).toNat (l.getD 1 0).toNat (l.getD 2 0).toNat (l.getD 3 0).toNat with ⟨c, e⟩ | ⟨c1, c2, c3, cv, e⟩ | ⟨c1, c2, c3, c4, cv, cs, e⟩ | ⟨c1, c2, c3, c4, c5, cv, cw, e⟩ | e
    all_goals (rw [e] at hb hn ⊢; dsimp only at hb hn ⊢; subst hn)
    · exact ⟨rfl, by omega⟩
    · simp only [candS]; omega
    · simp only [candS]; omega
    · simp only [candS]; omega
    exact absurd ⟨rfl, rfl⟩ hb
  rw [key.1]; unfold charS; rw [if_neg key.2, he, hn]
theorem cand_val (l : List UInt8) (n : Nat) (hn : (decodeL l).2 = n) (hb : ¬ badD l) : candS l n = ((decodeL l).1 : Int) := by
  have k0 := (l.getD 0 0).toNat_lt; have k1 := (l.getD 1 0).toNat_lt; have k2 := (l.getD 2 0).toNat_lt; have k3 := (l.getD 3 0).toNat_lt; unfold badD at hb; rw [decodeL_N] at hb hn ⊢; rcases decodeN_shape l.length (l.getD 0 0).toNat (l.getD 1 0).toNat (l.getD 2 0).toNat (l.getD 3 0).toNat with ⟨c, e⟩ | ⟨c1, c2, c3, cv, e⟩ | ⟨c1, c2, c3, c4, cv, cs, e⟩ | ⟨c1, c2, c3, c4, c5, cv, cw, e⟩ | e
  all_goals (rw [e] at hb hn ⊢; dsimp only at hb hn ⊢; subst hn)
  · rfl
  · simp only [candS]; omega
  · simp only [candS]; omega
  · simp only [candS]; omega
  exact absurd ⟨rfl, rfl⟩ hb
theorem width_four (l : List UInt8) : (decodeL l).2 ≤ 4 := by
  rw [decodeL_N]; rcases decodeN_shape l.length (l.getD 0 0).toNat (l.getD 1 0).toNat (l.getD 2 0).toNat (l.getD 3 0).toNat with ⟨c, e⟩ | ⟨c1, c2, c3, cv, e⟩ | ⟨c1, c2, c3, c4, cv, cs, e⟩ | ⟨c1, c2, c3, c4, c5, cv, cw, e⟩ | e
  all_goals (rw [e]; dsimp only; omega)
/-! texts, character by character -/
def hexS (n : Nat) : UInt8 := if n < 10 then UInt8.ofNat (48 + n) else UInt8.ofNat (87 + n)
theorem encodeRune_le (r : Int) : (encodeRune r).length ≤ 4 := by
  unfold encodeRune encodeRuneZ; rw [List.length_map]; repeat' split
  all_goals simp
end Th
namespace Th
open Go Go.Lib
section
variable (T : Int → Int → List UInt8)
end
end Th
namespace Th
open Go Go.Lib
section
variable (T : Int → Int → List UInt8)
end
end Th
namespace Th
open Go Go.Lib
/-! the law's own look at a text, byte by byte: in quotes?, behind a backslash? -/
section
variable (T : Int → Int → List UInt8)
end
end Th
namespace Go.Proofs.YtinknjhclpaieaaGreatDoor
open Go Go.RowKit Go.Proofs Th
theorem hasPrefix (s p : ByteArray) (w : World) : Calls Tryz.prog 43 #[.string s, .string p] w fun r w' => r = .returned (.bool (Lib.hasPrefix s.data.toList p.data.toList)) ∧ Below w.heap.size w w' :=
  calls_same (Tryz.strings_HasPrefix s p w)
theorem trimLeft (s : ByteArray) (w : World) : Calls Tryz.prog 93 #[.string s, .string ⟨#[48]⟩] w fun r w' => r = .returned (.string ⟨(Lib.trimLeftB s.data.toList 48).toArray⟩) ∧ Below w.heap.size w w' :=
  calls_same (Tryz.strings_TrimLeft_one s 48 (by decide) w)
theorem trimRight (s : ByteArray) (hs : s.size ≤ 9223372036854775807) (w : World) : Calls Tryz.prog 94 #[.string s, .string ⟨#[48]⟩] w fun r w' => r = .returned (.string ⟨(Lib.trimRightB s.data.toList 48).toArray⟩) ∧ Below w.heap.size w w' :=
  calls_same (Tryz.strings_TrimRight_one s 48 (by decide) w hs)
end Go.Proofs.YtinknjhclpaieaaGreatDoor
namespace Th
theorem short_cases (neg : Bool) (ds : List Nat) (e : Int) (hd : Digs ds) (d : Nat) (t : List Nat) (h0 : ds = d :: t) (hh : d ≠ 0) (hl : val ds % 10 ≠ 0) :
    (18 < ds.length ∧ norm neg (val ds) e = ((0, 0), 11)) ∨
    (ds.length ≤ 18 ∧ (e < -64 ∨ 64 < e) ∧ norm neg (val ds) e = ((0, 0), 11)) ∨
    (ds.length ≤ 18 ∧ -64 ≤ e ∧ e ≤ 64 ∧ val ds < 1000000000000000000 ∧ norm neg (val ds) e = ((if neg then -(val ds : Int) else val ds, e), 0)) := by
  rw [norm_fin _ _ _ hl]; unfold fin; have h1 := val_ge d t (by omega); rw [← h0] at h1; have h2 := val_lt ds hd; have h3 : ds.length = t.length + 1 := by rw [h0]; rfl
  by_cases h : 18 < ds.length
  · left
    have : (10 : Nat) ^ 18 ≤ 10 ^ t.length := Nat.pow_le_pow_right (by omega) (by omega); exact ⟨h, by rw [if_pos (by left; omega)]⟩
  right
  have : 10 ^ ds.length ≤ (10 : Nat) ^ 18 := Nat.pow_le_pow_right (by omega) (by omega); by_cases hx : e < -64 ∨ 64 < e
  · left; exact ⟨by omega, hx, by rw [if_pos (by omega)]⟩
  right; exact ⟨by omega, by omega, by omega, by omega, by rw [if_neg (by omega)]⟩
theorem val_zero_cons (ds : List Nat) : val (0 :: ds) = val ds := by rw [val_cons]; simp
theorem Digs.tail {a : Nat} {b : List Nat} (h : Digs (a :: b)) : Digs b := fun d hd => h d (List.mem_cons_of_mem _ hd)
theorem Digs.take {a : List Nat} (h : Digs a) (k : Nat) : Digs (a.take k) := fun d hd => h d (List.mem_of_mem_take hd)
end Th
namespace Th
def dEnd (l : List UInt8) (i : Nat) : Nat := i + nDig (l.drop i)
theorem dEnd_le (l : List UInt8) (i : Nat) (h : i ≤ l.length) : i ≤ dEnd l i ∧ dEnd l i ≤ l.length := by
  have := nDig_le (l.drop i); rw [List.length_drop] at this; unfold dEnd; omega
theorem dEnd_end (l : List UInt8) : dEnd l l.length = l.length := by unfold dEnd; rw [List.drop_length]; rfl
def offP (l : List UInt8) : Nat := if l.head? = some 45 then 1 else 0
def wP (l : List UInt8) : Nat := dEnd l (offP l)
def bad1 (l : List UInt8) : Prop := wP l = offP l ∨ (offP l + 1 < wP l ∧ l[offP l]? = some 48)
def fP (l : List UInt8) : Nat := if l[wP l]? = some 46 then dEnd l (wP l + 1) else wP l
def bad2 (l : List UInt8) : Prop := l[wP l]? = some 46 ∧ fP l = wP l + 1
def bP (l : List UInt8) : Nat := if l[fP l + 1]? = some 43 ∨ l[fP l + 1]? = some 45 then fP l + 2 else fP l + 1
def isE (l : List UInt8) : Prop := l[fP l]? = some 101 ∨ l[fP l]? = some 69
instance (l : List UInt8) : Decidable (isE l) := by unfold isE; infer_instance
instance (l : List UInt8) : Decidable (bad1 l) := by unfold bad1; infer_instance
instance (l : List UInt8) : Decidable (bad2 l) := by unfold bad2; infer_instance
def gP (l : List UInt8) : Nat := if isE l then dEnd l (bP l) else fP l
def bad3 (l : List UInt8) : Prop := isE l ∧ gP l = bP l
instance (l : List UInt8) : Decidable (bad3 l) := by unfold bad3; infer_instance
def isDg (c : UInt8) : Bool := decide (48 ≤ c.toNat) && decide (c.toNat ≤ 57)
theorem filter_dig (l : List UInt8) (h : AllDig l) : l.filter isDg = l := by
  rw [List.filter_eq_self]; intro c hc; have := h c hc; unfold isDg; simp [this]
theorem offP_le (l : List UInt8) : offP l ≤ l.length := by
  unfold offP; split
  · cases l with
    | nil => rename_i h; simp at h
    | cons a b => simp
  omega
theorem wP_le (l : List UInt8) : offP l ≤ wP l ∧ wP l ≤ l.length := dEnd_le l _ (offP_le l)
theorem fP_le (l : List UInt8) : wP l ≤ fP l ∧ fP l ≤ l.length := by
  have h := wP_le l; unfold fP; split
  · rename_i h2
    have : wP l < l.length := by
      rcases Nat.lt_or_ge (wP l) l.length with h3 | h3
      · exact h3
      rw [List.getElem?_eq_none h3] at h2; cases h2
    have := dEnd_le l (wP l + 1) (by omega); omega
  omega
theorem wP_eq (l : List UInt8) : wP l = offP l + nDig (l.drop (offP l)) := rfl
theorem take_off (l : List UInt8) : (l.take (offP l)).filter isDg = [] := by
  unfold offP; split
  · rename_i h
    cases l with
    | nil => simp
    | cons a b =>
      simp at h; subst h; rfl
  rfl
theorem take_w (l : List UInt8) : (l.take (wP l)).filter isDg = (l.drop (offP l)).take (nDig (l.drop (offP l))) := by
  rw [wP_eq, List.take_add, List.filter_append, take_off, List.nil_append, filter_dig _ (allDig_take _)]
def fracL (l : List UInt8) : List UInt8 := (l.take (fP l)).drop (wP l + 1)
theorem frac_point (l : List UInt8) (h : l[wP l]? = some 46) : fracL l = (l.drop (wP l + 1)).take (nDig (l.drop (wP l + 1))) ∧ l.drop (fP l) = (l.drop (wP l + 1)).drop (nDig (l.drop (wP l + 1))) ∧ fP l = wP l + 1 + nDig (l.drop (wP l + 1)) := by
  have e : fP l = wP l + 1 + nDig (l.drop (wP l + 1)) := by unfold fP; rw [if_pos h]; rfl
  refine ⟨?_, ?_, e⟩
  · unfold fracL
    rw [e, List.drop_take]; congr 1
    omega
  rw [e, List.drop_drop]
theorem frac_none (l : List UInt8) (h : ¬ l[wP l]? = some 46) : fracL l = [] ∧ fP l = wP l := by
  have e : fP l = wP l := by unfold fP; rw [if_neg h]
  refine ⟨?_, e⟩; unfold fracL; rw [e]; apply List.drop_eq_nil_of_le; rw [List.length_take]; omega
theorem fracL_dig (l : List UInt8) : AllDig (fracL l) := by
  by_cases h : l[wP l]? = some 46
  · rw [(frac_point l h).1]; exact allDig_take _
  rw [(frac_none l h).1]; intro c hc; cases hc
theorem take_f (l : List UInt8) : (l.take (fP l)).filter isDg = (l.drop (offP l)).take (nDig (l.drop (offP l))) ++ fracL l := by
  by_cases h : l[wP l]? = some 46
  · obtain ⟨h1, h2, h3⟩ := frac_point l h
    have hw : wP l < l.length := by
      rcases Nat.lt_or_ge (wP l) l.length with h3 | h3
      · exact h3
      rw [List.getElem?_eq_none h3] at h; cases h
    rw [h3, List.take_add, List.filter_append, filter_dig _ (allDig_take _), ← h1, ← take_w]; congr 1
    rw [List.take_add_one, h, List.filter_append]; simp [isDg]
  obtain ⟨h1, h2⟩ := frac_none l h; rw [h2, take_w, h1, List.append_nil]
theorem frac_length (l : List UInt8) : (fracL l).length = fP l - (wP l + 1) := by
  unfold fracL; rw [List.length_drop, List.length_take, Nat.min_eq_left (fP_le l).2]
theorem head_drop (l : List UInt8) (i : Nat) : (l.drop i).head? = l[i]? := by simp [List.head?_drop]
theorem bad1_iff (l : List UInt8) : bad1 l ↔ (nDig (l.drop (offP l)) = 0 ∨ (1 < nDig (l.drop (offP l)) ∧ (l.drop (offP l)).head? = some 48)) := by
  unfold bad1; rw [head_drop, wP_eq]; constructor <;> (rintro (h | ⟨h, h2⟩) <;> first | (left; omega) | (right; exact ⟨by omega, h2⟩))
theorem drop_w (l : List UInt8) : (l.drop (offP l)).drop (nDig (l.drop (offP l))) = l.drop (wP l) := by rw [List.drop_drop, wP_eq]
theorem bad2_iff (l : List UInt8) : bad2 l ↔ fracP (l.drop (wP l)) = none := by
  unfold bad2 fracP; rw [head_drop, List.drop_drop]; constructor
  · rintro ⟨h, h2⟩
    rw [if_pos h, if_pos]; have := (frac_point l h).2.2; omega
  intro h; by_cases h1 : l[wP l]? = some 46
  · refine ⟨h1, ?_⟩
    rw [if_pos h1] at h; by_cases h3 : nDig (l.drop (wP l + 1)) = 0
    · have := (frac_point l h1).2.2
      omega
    rw [if_neg h3] at h; cases h
  rw [if_neg h1] at h; cases h
theorem fracP_some (l : List UInt8) (h : ¬ bad2 l) : fracP (l.drop (wP l)) = some (fracL l, l.drop (fP l)) := by
  unfold fracP; rw [head_drop, List.drop_drop]; by_cases h1 : l[wP l]? = some 46
  · obtain ⟨h2, h3, h4⟩ := frac_point l h1
    rw [if_pos h1, if_neg, h2, h3]; intro h5; exact h ⟨h1, by omega⟩
  obtain ⟨h2, h3⟩ := frac_none l h1; rw [if_neg h1, h2, h3]
theorem expo_iff (l : List UInt8) : (∃ x, expoP (l.drop (fP l)) = some x) ↔ (¬ bad3 l ∧ gP l = l.length) := by
  have hf := (fP_le l).2; unfold expoP bad3; by_cases h0 : l.drop (fP l) = []
  · rw [if_pos h0]
    have h1 : l.length ≤ fP l := by simpa using h0
    have h2 : ¬ isE l := by
      unfold isE; rw [List.getElem?_eq_none h1]; simp
    simp only [Option.some.injEq, exists_eq', true_iff]; refine ⟨fun h => h2 h.1, ?_⟩; unfold gP; rw [if_neg h2]; omega
  rw [if_neg h0, head_drop]; have hlt : fP l < l.length := by
    rcases Nat.lt_or_ge (fP l) l.length with h3 | h3
    · exact h3
    exact absurd (List.drop_eq_nil_of_le h3) h0
  by_cases hE : isE l
  · have hE' : l[fP l]? = some 101 ∨ l[fP l]? = some 69 := hE
    rw [if_pos hE']; have hg : gP l = dEnd l (bP l) := by unfold gP; rw [if_pos hE]
    have key : ∀ neg, (∃ x, chkE neg (l.drop (bP l)) = some x) ↔ (¬ (isE l ∧ gP l = bP l) ∧ gP l = l.length) := by
      intro neg; unfold chkE; have hb : bP l ≤ l.length := by
        unfold bP; split
        · rename_i h
          rcases Nat.lt_or_ge (fP l + 1) l.length with h3 | h3
          · omega
          rw [List.getElem?_eq_none h3] at h; simp at h
        omega
      have h1 := nDig_le (l.drop (bP l)); rw [List.length_drop] at h1; rw [hg]; unfold dEnd; rw [List.length_drop]; by_cases h2 : nDig (l.drop (bP l)) = 0 ∨ nDig (l.drop (bP l)) < l.length - bP l
      · rw [if_pos h2]
        constructor
        · rintro ⟨x, hx⟩; cases hx
        rintro ⟨h3, h4⟩; exfalso; rcases h2 with h2 | h2
        · exact h3 ⟨hE, by omega⟩
        omega
      rw [if_neg h2]; constructor
      · intro _
        refine ⟨fun h => h2 (Or.inl (by omega)), by omega⟩
      intro _; exact ⟨_, rfl⟩
    rw [List.drop_drop, List.drop_drop]; simp only [head_drop]; by_cases h45 : l[fP l + 1]? = some 45
    · rw [if_pos h45, ← key true]
      unfold bP; rw [if_pos (Or.inr h45)]
    rw [if_neg h45]; by_cases h43 : l[fP l + 1]? = some 43
    · rw [if_pos h43, ← key false]
      unfold bP; rw [if_pos (Or.inl h43)]
    rw [if_neg h43, ← key false]; unfold bP; rw [if_neg (by rintro (h | h); exact h43 h; exact h45 h)]
  rw [if_neg (show ¬ (l[fP l]? = some 101 ∨ l[fP l]? = some 69) from hE)]; have hg : gP l = fP l := by unfold gP; rw [if_neg hE]
  constructor
  · rintro ⟨x, hx⟩; cases hx
  rintro ⟨_, h⟩; omega
def okF (l : List UInt8) : Prop := ¬ (bad1 l ∨ bad2 l ∨ bad3 l) ∧ gP l = l.length
instance (l : List UInt8) : Decidable (okF l) := by unfold okF; infer_instance
theorem parse_core (l : List UInt8) : parseN l = coreN (decide (l.head? = some 45)) (l.drop (offP l)) := by
  unfold parseN offP; by_cases h : l.head? = some 45
  · rw [if_pos h, if_pos h, decide_eq_true h]
  rw [if_neg h, if_neg h, decide_eq_false h]; rfl
theorem parse_bad (l : List UInt8) (h : ¬ okF l) : parseN l = ((0, 0), 10) := by
  rw [parse_core]; by_cases h1 : bad1 l
  · exact core_bad _ _ ((bad1_iff l).1 h1)
  by_cases h2 : bad2 l
  · exact core_frac _ _ (by rw [drop_w]; exact (bad2_iff l).1 h2)
  have h3 : expoP (l.drop (fP l)) = none := by
    cases he : expoP (l.drop (fP l)) with
    | none => rfl
    | some x =>
      exfalso; obtain ⟨h4, h5⟩ := (expo_iff l).1 ⟨x, he⟩; exact h ⟨by rintro (h | h | h); exact h1 h; exact h2 h; exact h4 h, h5⟩
  exact core_expo _ _ (fracL l) (l.drop (fP l)) (by rw [drop_w]; exact fracP_some l h2) h3
theorem parse_good (l : List UInt8) (h : okF l) : ∃ en x, expoP (l.drop (fP l)) = some (en, x) ∧
    parseN l = norm (decide (l.head? = some 45)) (val (dgs ((l.take (fP l)).filter isDg))) (sg en (clampN x) - (fP l - (wP l + 1) : Nat)) := by
  obtain ⟨h0, h5⟩ := h; have h1 : ¬ bad1 l := fun h => h0 (Or.inl h)
  have h2 : ¬ bad2 l := fun h => h0 (Or.inr (Or.inl h))
  have h4 : ¬ bad3 l := fun h => h0 (Or.inr (Or.inr h))
  obtain ⟨⟨en, x⟩, he⟩ := (expo_iff l).2 ⟨h4, h5⟩; refine ⟨en, x, he, ?_⟩; rw [parse_core, core_good _ _ (fracL l) (l.drop (fP l)) x en (fun h => h1 ((bad1_iff l).2 h)) (by rw [drop_w]; exact fracP_some l h2) he, take_f, frac_length]
def digL (l : List UInt8) (k : Nat) : List UInt8 := (l.take k).filter isDg
def cntE (l : List UInt8) (w k : Nat) : Nat := (((l.take k).drop (w + 1)).filter isDg).length
theorem digL_zero (l : List UInt8) : digL l 0 = [] := by unfold digL; rw [List.take_zero]; rfl
theorem cntE_zero (l : List UInt8) (w : Nat) : cntE l w 0 = 0 := by unfold cntE; rw [List.take_zero, List.drop_nil]; rfl
theorem digL_step (l : List UInt8) (k : Nat) (c : UInt8) (h : l[k]? = some c) : digL l (k + 1) = digL l k ++ if isDg c then [c] else [] := by
  unfold digL; rw [List.take_add_one, h, List.filter_append]; congr 1
  simp only [Option.toList_some, List.filter_cons, List.filter_nil]
theorem cntE_step (l : List UInt8) (w k : Nat) (c : UInt8) (h : l[k]? = some c) : cntE l w (k + 1) = cntE l w k + if isDg c = true ∧ w < k then 1 else 0 := by
  have hk : k < l.length := by
    rcases Nat.lt_or_ge k l.length with h3 | h3
    · exact h3
    rw [List.getElem?_eq_none h3] at h; cases h
  unfold cntE; rw [List.take_add_one, h]; by_cases hw : w < k
  · rw [List.drop_append_of_le_length (by rw [List.length_take]; omega), List.filter_append, List.length_append]
    congr 1
    simp only [Option.toList_some, List.filter_cons, List.filter_nil]; by_cases hc : isDg c = true <;> simp [hc, hw]
  rw [List.drop_eq_nil_of_le (by simp; omega), List.drop_eq_nil_of_le (by simp; omega), if_neg (fun h => hw h.2)]; rfl
theorem cntE_end (l : List UInt8) : cntE l (wP l) (fP l) = fP l - (wP l + 1) := by
  show ((fracL l).filter isDg).length = _
  rw [filter_dig _ (fracL_dig l), frac_length]
theorem cntE_le (l : List UInt8) (w k : Nat) : cntE l w k ≤ k := by
  unfold cntE; have h1 := List.length_filter_le isDg ((l.take k).drop (w + 1)); rw [List.length_drop, List.length_take] at h1; omega
theorem digL_le (l : List UInt8) (k : Nat) : (digL l k).length ≤ k := by
  unfold digL; have h1 := List.length_filter_le isDg (l.take k); rw [List.length_take] at h1; omega
theorem digL_dig (l : List UInt8) (k : Nat) : AllDig (digL l k) := by
  intro c hc; have := (List.mem_filter.1 hc).2; unfold isDg at this; simpa using this
end Th
