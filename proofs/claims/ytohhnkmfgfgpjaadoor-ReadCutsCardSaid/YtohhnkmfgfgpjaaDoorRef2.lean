/- The references' characters: Char, First. Conditions: those that each names.
The references' First, Right, one, Write of texts. Conditions: those that each names.
The references' one and Write of texts. Conditions: those that each names. -/
import Derived.Test.YtohhnkmfgfgpjaaDoorBytes
import Derived.Test.YtohhnkmfgfgpjaaDoorValMath
import Derived.Deep.LoopGhost
import Derived.Outline
import Derived.Deep.CutBlock
import Derived.Deep.DeepCutAuto
namespace Go.Proofs.YtohhnkmfgfgpjaaDoor
open Go Go.RowKit Go.Proofs Th
attribute [local go_sem] Above.cell Above.frozen
attribute [local go_sem ↓] conv1 conv2 conv3 conv4

end Go.Proofs.YtohhnkmfgfgpjaaDoor
namespace Go.Proofs.YtohhnkmfgfgpjaaDoor
open Go Go.RowKit Go.Proofs Th
attribute [local go_sem] Above.cell Above.frozen

def headS (n : Nat) : Int := if n = 2 then 192 else if n = 3 then 224 else if n = 4 then 240 else 0
/-- what the reference has reckoned behind j of the bytes that come -/
def partS (l : List UInt8) (n : Nat) : Nat → Int
  | 0 => ((l.getD 0 0).toNat : Int) - headS n
  | j + 1 => partS l n j * 64 + ((l.getD (j + 1) 0).toNat : Int) - 128
theorem getD_at (s : ByteArray) (i : Nat) (h : i < s.size) : s.data.toList.getD i 0 = s[i] := by
  have h2 : i < s.data.toList.length := by simpa using h
  rw [List.getD_eq_getElem?_getD, List.getElem?_eq_getElem h2]; rfl
theorem part_cand (l : List UInt8) (n : Nat) (h1 : 1 ≤ n) (h4 : n ≤ 4) : partS l n (n - 1) = candS l n := by
  have hn : n = 1 ∨ n = 2 ∨ n = 3 ∨ n = 4 := by omega
  rcases hn with rfl | rfl | rfl | rfl
  · show ((l.getD 0 0).toNat : Int) - 0 = _
    simp only [candS]; omega
  · rfl
  · rfl
  · rfl
theorem part_le (l : List UInt8) (n j : Nat) (hj : j ≤ 3) : -100000000 ≤ partS l n j ∧ partS l n j ≤ 100000000 := by
  have hh : 0 ≤ headS n ∧ headS n ≤ 240 := by unfold headS; split; omega; split; omega; split <;> omega
  have k0 := (l.getD 0 0).toNat_lt
  have k1 := (l.getD (0 + 1) 0).toNat_lt
  have k2 := (l.getD (1 + 1) 0).toNat_lt
  have k3 := (l.getD (2 + 1) 0).toNat_lt
  have hj : j = 0 ∨ j = 1 ∨ j = 2 ∨ j = 3 := by omega
  rcases hj with rfl | rfl | rfl | rfl
  all_goals (simp only [partS]; omega)
theorem first_some (l : List UInt8) (n : Nat) (h1 : 1 ≤ n) (h4 : n ≤ 4) (hl : n ≤ l.length) (h : charS (candS l n) = l.take n) : firstS l = ((candS l n).toNat, n) ∧ 0 ≤ candS l n := by
  obtain ⟨hb, hn⟩ := (cand_iff l n h1 h4 hl).1 h
  have hv := cand_val l n hn hb
  unfold firstS
  rw [if_neg (fun h' => h'.elim (fun h0 => by clear hb hn hv h h'; rw [h0] at hl; exact absurd (Nat.le_trans h1 hl) (by decide)) hb)]
  refine ⟨?_, by omega⟩
  rw [hv, ← hn, Int.toNat_natCast]
theorem first_none (l : List UInt8) (h : ∀ n, 1 ≤ n → n ≤ 4 → n ≤ l.length → ¬ charS (candS l n) = l.take n) : firstS l = (0, 0) := by
  unfold firstS
  by_cases hl : l = [] ∨ badD l
  · rw [if_pos hl]
  · exfalso
    have hne : l ≠ [] := fun h => hl (Or.inl h)
    have h1 := Lib.decodeL_width l
    have h4 := width_four l
    have h5 := Lib.decodeL_le l hne
    obtain ⟨n, hn⟩ : ∃ n, (Lib.decodeL l).2 = n := ⟨_, rfl⟩
    rw [hn] at h1 h4 h5
    exact h n h1 h4 h5 ((cand_iff l n h1 h4 h5).2 ⟨fun h => hl (Or.inr h), hn⟩)
/-- the box of the heads -/
structure HeadsAt (w : World) (g : Nat) (W : World) : Prop where
  at_ : ∀ n, n ≤ 4 → W.cell? ⟨g, n, none⟩ = some (.int .i64 (headS n))
  lt : g < W.heap.size
  old : Below w.heap.size w W
theorem HeadsAt.below {w W W' : World} {g : Nat} (h : HeadsAt w g W) (hb : Below W.heap.size W W') : HeadsAt w g W' :=
  ⟨fun n hn => (hb.cell (p := ⟨g, n, none⟩) h.lt).trans (h.at_ n hn), Nat.lt_of_lt_of_le h.lt hb.size, up h.old hb⟩
theorem fst_le (l : List UInt8) : (firstS l).1 ≤ 1114111 := by
  unfold firstS
  split
  · exact Nat.zero_le _
  · exact Lib.decodeL_rune l
end Go.Proofs.YtohhnkmfgfgpjaaDoor
namespace Go.Proofs.YtohhnkmfgfgpjaaDoor
open Go Go.RowKit Go.Proofs Th
attribute [local go_sem] Above.cell Above.frozen

def hexB : ByteArray := ⟨#[48, 49, 50, 51, 52, 53, 54, 55, 56, 57, 97, 98, 99, 100, 101, 102]⟩
theorem hex_at (d : Nat) (h : d < 16) : hexB.extract d (d + 1) = ⟨#[hexS d]⟩ := by
  have : d = 0 ∨ d = 1 ∨ d = 2 ∨ d = 3 ∨ d = 4 ∨ d = 5 ∨ d = 6 ∨ d = 7 ∨ d = 8 ∨ d = 9 ∨ d = 10 ∨ d = 11 ∨ d = 12 ∨ d = 13 ∨ d = 14 ∨ d = 15 := by omega
  rcases this with rfl | rfl | rfl | rfl | rfl | rfl | rfl | rfl | rfl | rfl | rfl | rfl | rfl | rfl | rfl | rfl <;> decide
theorem charS_rune {c : Nat} (h : c < 55296 ∨ (57343 < c ∧ c ≤ 1114111)) : charS c = Lib.encodeRune c := by unfold charS; rw [if_neg (by omega)]
theorem ret_as2 {a : ByteArray} {l : List UInt8} {v : Value} (h : a.data.toList = l) : Ending.returned (.tuple #[.string a, v]) = .returned (.tuple #[strB l, v]) := by
  rw [show strB l = .string ⟨l.toArray⟩ from rfl, ba_inj (a := a) (b := ⟨l.toArray⟩) h]
theorem rune_ok (l : List UInt8) (hb : ¬ badD l) : (Lib.decodeL l).1 < 55296 ∨ (57343 < (Lib.decodeL l).1 ∧ (Lib.decodeL l).1 ≤ 1114111) := by
  unfold badD at hb
  rw [Lib.decodeL_N] at hb ⊢
  have k0 := (l.getD 0 0).toNat_lt
  rcases Lib.decodeN_shape l.length (l.getD 0 0).toNat (l.getD 1 0).toNat (l.getD 2 0).toNat (l.getD 3 0).toNat with ⟨c, e⟩ | ⟨c1, c2, c3, cv, e⟩ | ⟨c1, c2, c3, c4, cv, cs, e⟩ | ⟨c1, c2, c3, c4, c5, cv, cw, e⟩ | e
  all_goals (rw [e] at hb ⊢; dsimp only at hb ⊢)
  · omega
  · omega
  · omega
  · omega
  · exact absurd ⟨rfl, rfl⟩ hb
theorem ne_of_pos {t : ByteArray} (h : 0 < t.size) : t.data.toList ≠ [] := by
  intro h1
  have h2 := size_listU t
  rw [h1] at h2
  exact absurd h2 (by show ¬ 0 = _; omega)
theorem nil_of_zero {t : ByteArray} (h : ¬ 0 < t.size) : t.data.toList = [] := List.eq_nil_of_length_eq_zero ((size_listU t).trans (by omega))
end Go.Proofs.YtohhnkmfgfgpjaaDoor
