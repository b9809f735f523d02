/- The references' small functions on digits, and how a slice of digits is read. Conditions: texts are no longer than texts are. -/
import Derived.Test.YtohhnkmfgfgpjaaDoorNumB
import Derived.Test.YtohhnkmfgfgpjaaDoorMade
import Derived.Test.YtohhnkmfgfgpjaaDoorNumMath
import Derived.Deep.LoopGhost
namespace Go.Proofs.YtohhnkmfgfgpjaaDoor
open Go Go.RowKit Go.Proofs Th
attribute [local go_sem] Above.cell Above.frozen

/-- a slice of digits, below block B -/
structure IntsAt (w : World) (B : Nat) (A : Option Addr) (c : Nat) (ds : List Nat) : Prop where
  le : ds.length ≤ c
  cap : c ≤ maxLen
  at_ : 0 < ds.length → ∃ g o, A = some ⟨g, o, none⟩ ∧ g < B ∧ ∀ j (h : j < ds.length), w.cell? ⟨g, o + j, none⟩ = some (.int .i64 (ds[j] : Int))

theorem IntsAt.below {w w' : World} {B B' : Nat} {A : Option Addr} {c : Nat} {ds : List Nat} (h : IntsAt w B A c ds) (hb : Below B' w w') (hB : B ≤ B') : IntsAt w' B A c ds :=
  ⟨h.le, h.cap, fun hn => by
    obtain ⟨g, o, e, hg, hc⟩ := h.at_ hn
    exact ⟨g, o, e, hg, fun j hj => (hb.cell (p := ⟨g, o + j, none⟩) (Nat.lt_of_lt_of_le hg hB)).trans (hc j hj)⟩⟩
theorem IntsAt.more {w : World} {B B' : Nat} {A : Option Addr} {c : Nat} {ds : List Nat} (h : IntsAt w B A c ds) (hB : B ≤ B') : IntsAt w B' A c ds :=
  ⟨h.le, h.cap, fun hn => by
    obtain ⟨g, o, e, hg, hc⟩ := h.at_ hn
    exact ⟨g, o, e, Nat.lt_of_lt_of_le hg hB, hc⟩⟩
/-- without the first -/
theorem IntsAt.tail {w : World} {B g o c : Nat} {d : Nat} {ds : List Nat} (h : IntsAt w B (some ⟨g, o, none⟩) c (d :: ds)) : IntsAt w B (if c = 1 then some ⟨g, o, none⟩ else some ⟨g, o + 1, none⟩) (c - 1) ds := by
  have hl := h.le
  simp only [List.length_cons] at hl
  refine ⟨by omega, by have := h.cap; omega, fun hn => ?_⟩
  obtain ⟨g', o', e, hg, hc⟩ := h.at_ (by simp)
  injection e with e
  injection e with e1 e2
  subst e1 e2
  rw [if_neg (by omega)]
  refine ⟨_, _, rfl, hg, fun j hj => ?_⟩
  have := hc (j + 1) (by simp; omega)
  rw [show o + 1 + j = o + (j + 1) by omega, this]
  rfl
/-- without the last -/
theorem IntsAt.init {w : World} {B c : Nat} {A : Option Addr} {ds : List Nat} (h : IntsAt w B A c ds) (k : Nat) (hk : k ≤ ds.length) : IntsAt w B A c (ds.take k) := by
  have hl := h.le
  refine ⟨by rw [List.length_take]; omega, h.cap, fun hn => ?_⟩
  rw [List.length_take] at hn
  obtain ⟨g, o, e, hg, hc⟩ := h.at_ (by omega)
  refine ⟨g, o, e, hg, fun j hj => ?_⟩
  rw [List.getElem_take]
  exact hc j (by rw [List.length_take] at hj; omega)

def digB (c : UInt8) : Bool := decide (48 ≤ c.toNat) && decide (c.toNat ≤ 57)
theorem ret_str {a b : ByteArray} (h : a = b) : Ending.returned (.string a) = .returned (.string b) := by rw [h]
/-- so many noughts -/
def zerosN (n : Nat) : ByteArray := ⟨(List.replicate n (48 : UInt8)).toArray⟩
theorem zerosN_size (n : Nat) : (zerosN n).size = n := by unfold zerosN; show (List.replicate _ _).toArray.size = _; simp
theorem zerosN_succ (n : Nat) : zerosN n ++ ⟨#[48]⟩ = zerosN (n + 1) := by
  apply ByteArray.ext
  rw [ByteArray.data_append]
  unfold zerosN
  rw [List.replicate_succ', ← List.push_toArray]
  apply Array.ext'
  simp
/-- digits as a text -/
def bytesN (ds : List Nat) : ByteArray := ⟨(ds.map fun d => UInt8.ofNat (48 + d)).toArray⟩
theorem bytesN_size (ds : List Nat) : (bytesN ds).size = ds.length := by unfold bytesN; show (List.map _ _).toArray.size = _; simp
def tenSigns : ByteArray := ⟨#[48, 49, 50, 51, 52, 53, 54, 55, 56, 57]⟩
theorem sign_at (d : Nat) (h : d ≤ 9) : tenSigns.extract d (d + 1) = ⟨#[UInt8.ofNat (48 + d)]⟩ := by
  have : d = 0 ∨ d = 1 ∨ d = 2 ∨ d = 3 ∨ d = 4 ∨ d = 5 ∨ d = 6 ∨ d = 7 ∨ d = 8 ∨ d = 9 := by omega
  rcases this with rfl | rfl | rfl | rfl | rfl | rfl | rfl | rfl | rfl | rfl <;> decide
theorem bytesN_succ (ds : List Nat) (k : Nat) (h : k < ds.length) (h9 : ds[k] ≤ 9) : bytesN (ds.take k) ++ tenSigns.extract ds[k] (ds[k] + 1) = bytesN (ds.take (k + 1)) := by
  rw [sign_at _ h9, List.take_succ_eq_append_getElem h]
  apply ByteArray.ext
  rw [ByteArray.data_append]
  unfold bytesN
  rw [List.map_append]
  apply Array.ext'
  simp
/-- how an exponent is reckoned: its digits till they pass a million -/
def powS (n : Nat) (c : UInt8) : Nat := if digB c && decide (n < 1000000) then n * 10 + dg c else n
def powN (l : List UInt8) : Nat := l.foldl powS 0
def negB (l : List UInt8) : Bool := l.any (· == 45)
theorem powN_snoc (l : List UInt8) (c : UInt8) : powN (l ++ [c]) = powS (powN l) c := by unfold powN; rw [List.foldl_append]; rfl
theorem powN_le (l : List UInt8) : powN l ≤ 9999999 := by
  unfold powN
  suffices ∀ n, n ≤ 9999999 → l.foldl powS n ≤ 9999999 by exact this 0 (by omega)
  induction l with
  | nil => intro n h; exact h
  | cons c l ih =>
    intro n h
    refine ih _ ?_
    unfold powS digB dg
    split
    · rename_i h2; simp at h2; omega
    · exact h
def powR (l : List UInt8) : Int := if negB l then -(powN l : Int) else powN l
theorem take_next (s : ByteArray) (k : Nat) (h : k < s.size) : s.data.toList.take (k + 1) = s.data.toList.take k ++ [s[k]] := by
  rw [List.take_succ_eq_append_getElem (by simpa using h)]; rfl
theorem negB_snoc (l : List UInt8) (c : UInt8) : negB (l ++ [c]) = (negB l || c == 45) := by unfold negB; simp
end Go.Proofs.YtohhnkmfgfgpjaaDoor
