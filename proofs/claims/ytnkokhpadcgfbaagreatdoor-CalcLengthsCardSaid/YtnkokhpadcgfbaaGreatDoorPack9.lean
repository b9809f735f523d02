/- Lemmas and contracts for the laws CalcLengths, part 9 of 37: Slice, NumC. Conditions: those that each lemma names. -/
import Derived.Test.YtnkokhpadcgfbaaGreatDoorPack6
import Derived.Test.YtnkokhpadcgfbaaGreatDoorPack8
import Derived.Test.YtnkokhpadcgfbaaGreatDoorPack1
import Derived.Test.YtnkokhpadcgfbaaGreatDoorPack3
import Derived.Maps.AppendAt
import Derived.Deep.AppendLies
import Derived.OwnWalk
import Derived.Deep.LoopGhost
namespace Go.Proofs.YtnkokhpadcgfbaaGreatDoor
open Go Go.RowKit Go.Proofs Th
structure Box (w : World) (g : Nat) (cs : List Value) : Prop where
  cell : ∀ i v, cs[i]? = some v → w.cell? ⟨g, i, none⟩ = some v
  froz : ∀ i, w.frozen? ⟨g, i, none⟩ = false
  lt : g < w.heap.size
theorem Box.below {w w' : World} {g B : Nat} {cs : List Value} (h : Box w g cs) (hb : Below B w w') (hg : g < B) : Box w' g cs :=
  ⟨fun i v hv => (hb.cell (p := ⟨g, i, none⟩) hg).trans (h.cell i v hv), fun i => (hb.frozen (p := ⟨g, i, none⟩) hg).trans (h.froz i), Nat.lt_of_lt_of_le h.lt hb.size⟩
theorem Box.alloc {w : World} {g : Nat} {cs : List Value} (h : Box w g cs) (o : Obj) : Box (w.alloc o) g cs := h.below ((Below.refl _ _).alloc (Nat.le_refl _) _) h.lt
theorem Box.new {w : World} {n : Nat} (cs : List Value) (t : TypeId) (h : w.heap.size = n) : Box (w.alloc (.cells cs.toArray t)) n cs := by
  subst h
  refine ⟨fun i v hv => ?_, fun i => ?_, by simp⟩
  · simp [go_sem, hv]
  · simp [go_sem]
theorem Box.other {w : World} {g m o : Nat} {cs : List Value} (h : Box w g cs) (hm : m ≠ g) (v : Value) : Box (w.setCell ⟨m, o, none⟩ v) g cs := by
  refine ⟨fun i u hu => ?_, fun i => ?_, by simpa using h.lt⟩
  · rw [World.cell?_setCell_other _ _ _ _ (by intro e; injection e; omega)]; exact h.cell i u hu
  · rw [World.frozen?_setCell]; exact h.froz i
theorem below_set {w : World} {B g o : Nat} (hg : B ≤ g) (v : Value) : Below B w (w.setCell ⟨g, o, none⟩ v) := by
  have h : Below B w w := Below.refl _ _
  exact h.setCell (p := ⟨g, o, none⟩) hg v
theorem add_at (g o j : Nat) : (⟨g, o, none⟩ : Addr).add j = ⟨g, o + j, none⟩ := by
  unfold Addr.add
  split
  · rename_i h; subst h; rfl
  · rfl
end Go.Proofs.YtnkokhpadcgfbaaGreatDoor
namespace Go.Proofs.YtnkokhpadcgfbaaGreatDoor
open Go Go.RowKit Go.Proofs Th
attribute [local go_sem] Above.cell
structure I64 (m : Int) : Prop where
  lo : -9223372036854775808 ≤ m
  hi : m ≤ 9223372036854775807
theorem zero_of_right {m e : Int} (h : right m e = true) : (m == 0 && e == 0) = (m == 0) := by
  by_cases hm : m = 0
  · subst hm; simp [right] at h; simp [h]
  · simp [hm]
end Go.Proofs.YtnkokhpadcgfbaaGreatDoor
