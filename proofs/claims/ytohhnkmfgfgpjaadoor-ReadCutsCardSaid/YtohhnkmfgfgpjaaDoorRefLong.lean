/- The references' short: the number that a row of digits is. Conditions: the digits are no more than a million, the exponent is far from the ends of int.
The references' long: a number's digits. Conditions: the number is of int64. -/
import Derived.Test.YtohhnkmfgfgpjaaDoorRefA
import Derived.Test.YtohhnkmfgfgpjaaDoorRefMath
import Derived.Test.YtohhnkmfgfgpjaaDoorSlice
import Derived.Test.YtohhnkmfgfgpjaaDoorNumC
import Derived.Deep.CutBlock
import Derived.Deep.DeepCutAuto
namespace Go.Proofs.YtohhnkmfgfgpjaaDoor
open Go Go.RowKit Go.Proofs Th

/-- the boxes of short: the number's, and the result's -/
structure Two (w wr : World) (neg : Bool) (A : Option Addr) (c : Nat) (ds : List Nat) (e : Int) : Prop where
  x : Box wr w.heap.size [.bool neg, .slice A ds.length c, .int .i64 e]
  r : Box wr (w.heap.size + 1) [.int .i64 0, .int .i64 0]
  ints : IntsAt wr w.heap.size A c ds
  old : Below w.heap.size w wr

theorem Two.start (neg : Bool) (A : Option Addr) (c : Nat) (ds : List Nat) (e : Int) (w : World) (hI : IntsAt w w.heap.size A c ds) (t t' : TypeId) :
    Two w ((w.alloc (.cells #[.bool neg, .slice A ds.length c, .int .i64 e] t)).alloc (.cells #[.int .i64 0, .int .i64 0] t')) neg A c ds e :=
  ⟨(Box.new [.bool neg, .slice A ds.length c, .int .i64 e] _ rfl).alloc _, Box.new [.int .i64 0, .int .i64 0] _ (by simp), hI.below (al2 w _ _) (Nat.le_refl _), al2 w _ _⟩
theorem Two.tail {w wr : World} {neg : Bool} {g o c : Nat} {d : Nat} {ds : List Nat} {e : Int} (h : Two w wr neg (some ⟨g, o, none⟩) c (d :: ds) e) :
    Two w (wr.setCell ⟨w.heap.size, 1, none⟩ (.slice (if c = 1 then some ⟨g, o, none⟩ else some ⟨g, o + 1, none⟩) ds.length (c - 1))) neg (if c = 1 then some ⟨g, o, none⟩ else some ⟨g, o + 1, none⟩) (c - 1) ds e :=
  ⟨h.x.set (by simp) _, h.r.other (by omega) _, h.ints.tail.set (Nat.le_refl _) _, st1 h.old _ _ _ (Nat.le_refl _)⟩
theorem Two.init {w wr : World} {neg : Bool} {A : Option Addr} {c : Nat} {rest : List Nat} {x : Nat} {e : Int} (h : Two w wr neg A c (rest ++ [x]) e) :
    Two w ((wr.setCell ⟨w.heap.size, 1, none⟩ (.slice A rest.length c)).setCell ⟨w.heap.size, 2, none⟩ (.int .i64 (e + 1))) neg A c rest (e + 1) := by
  have hi := h.ints.init rest.length (by simp)
  rw [List.take_left] at hi
  exact ⟨(h.x.set (by simp) _).set (by simp) _, (h.r.other (by omega) _).other (by omega) _, (hi.set (Nat.le_refl _) _).set (Nat.le_refl _) _, st1 (st1 h.old _ _ _ (Nat.le_refl _)) _ _ _ (Nat.le_refl _)⟩

/-- what the first loop keeps -/
structure Lead (w wr : World) (neg : Bool) (ds : List Nat) (e : Int) (A' : Option Addr) (c' : Nat) (ds' : List Nat) : Prop where
  two : Two w wr neg A' c' ds' e
  dig : Digs ds'
  len : ds'.length ≤ 1000000
  same : val ds' = val ds
/-- what the second loop keeps -/
structure Trail (w wr : World) (neg : Bool) (ds : List Nat) (e : Int) (A' : Option Addr) (c' : Nat) (ds' : List Nat) (e' : Int) : Prop where
  two : Two w wr neg A' c' ds' e'
  dig : Digs ds'
  len : ds'.length ≤ 1000000
  head : ds'.head? ≠ some 0
  e0 : -1000000000 ≤ e'
  e1 : e' + ds'.length ≤ 1001000000
  same : norm neg (val ds') e' = norm neg (val ds) e

theorem snoc_of {ds : List Nat} (h : ds ≠ []) : ∃ t x, ds = t ++ [x] := ⟨ds.dropLast, ds.getLast h, (List.dropLast_concat_getLast h).symm⟩

end Go.Proofs.YtohhnkmfgfgpjaaDoor
namespace Go.Proofs.YtohhnkmfgfgpjaaDoor
open Go Go.RowKit Go.Proofs Th

/-- what the loop of long keeps: the box of the number being made, and its digits so far -/
structure Lng (w wr : World) (neg : Bool) (n : Nat) (e : Int) (k : Nat) (v : Value) (xs : List Nat) : Prop where
  x : Box wr (w.heap.size + 2) [.bool neg, v, .int .i64 e]
  r : Box wr (w.heap.size + 1) [.bool false, .slice none 0 0, .int .i64 0]
  own : OwnInts wr (w.heap.size + 3) v xs
  same : digs n = digs k ++ xs
  old : Below w.heap.size w wr
  len : xs.length ≤ 20

theorem digs_len (n : Nat) (h : n ≤ 9223372036854775808) : (digs n).length ≤ 19 := length_digs_le n 19 (by omega)
theorem long_step {n k : Nat} {xs : List Nat} (hk : k ≠ 0) (hn : n ≤ 9223372036854775808) (h : digs n = digs k ++ xs) : digs n = digs (k / 10) ++ (k % 10 :: xs) ∧ xs.length + 1 ≤ 19 := by
  have h1 : digs n = digs (k / 10) ++ (k % 10 :: xs) := by rw [h, digs_pos k hk]; simp
  have h2 := digs_len n hn
  rw [h1] at h2
  simp at h2
  exact ⟨h1, by omega⟩

end Go.Proofs.YtohhnkmfgfgpjaaDoor
