/- Words for the laws' walks: a world of which one knows some structs of two cells. No conditions. -/
import Derived.Test.YtohhnkmfgfgpjaaGreatDoorNumA
namespace Go.Proofs.YtohhnkmfgfgpjaaGreatDoor
open Go Go.RowKit Go.Proofs Th

/-- a block of two cells -/
structure Cell2 (W : World) (n : Nat) (a b : Value) : Prop where
  c0 : W.cell? ⟨n, 0, none⟩ = some a
  c1 : W.cell? ⟨n, 1, none⟩ = some b

theorem Cell2.lt {W : World} {n : Nat} {a b : Value} (h : Cell2 W n a b) : n < W.heap.size := lt_of_cell h.c0
theorem Cell2.below {W W' : World} {n : Nat} {a b : Value} (h : Cell2 W n a b) (hb : Below W.heap.size W W') : Cell2 W' n a b :=
  ⟨(hb.cell h.lt).trans h.c0, (hb.cell h.lt).trans h.c1⟩
theorem Cell2.alloc {W : World} {n : Nat} {a b : Value} (h : Cell2 W n a b) (o : Obj) : Cell2 (W.alloc o) n a b := h.below ((Below.refl _ _).alloc (Nat.le_refl _) _)
theorem Cell2.set {W : World} {n m o : Nat} {a b v : Value} (h : Cell2 W n a b) (hm : m ≠ n) : Cell2 (W.setCell ⟨m, o, none⟩ v) n a b := by
  refine ⟨?_, ?_⟩
  · rw [World.cell?_setCell_other _ _ _ _ (by intro e; injection e; omega)]; exact h.c0
  · rw [World.cell?_setCell_other _ _ _ _ (by intro e; injection e; omega)]; exact h.c1
theorem Cell2.new (W : World) (a b : Value) (t : TypeId) : Cell2 (W.alloc (.cells #[a, b] t)) W.heap.size a b := by
  refine ⟨?_, ?_⟩ <;> simp [go_sem]
theorem Cell2.newAt {W : World} {n : Nat} {a b : Value} {t : TypeId} (h : W.heap.size = n) : Cell2 (W.alloc (.cells #[a, b] t)) n a b := by subst h; exact Cell2.new _ _ _ _
theorem Cell2.made (W : World) (x y a b : Value) (t : TypeId) : Cell2 (((W.alloc (.cells #[x, y] t)).setCell ⟨W.heap.size, 0, none⟩ a).setCell ⟨W.heap.size, 1, none⟩ b) W.heap.size a b := by
  have h := Cell2.new W x y t
  refine ⟨?_, ?_⟩
  · simp [go_sem]
  · simp [go_sem]
theorem Cell2.make {W : World} {n : Nat} {a b : Value} (h : Cell2 W n a b) (x y p q : Value) (t : TypeId) : Cell2 (((W.alloc (.cells #[x, y] t)).setCell ⟨W.heap.size, 0, none⟩ p).setCell ⟨W.heap.size, 1, none⟩ q) n a b :=
  (((h.alloc _).set (by have := h.lt; omega)).set (by have := h.lt; omega))
theorem below_make {w W : World} (h : Below w.heap.size w W) (x y p q : Value) (t : TypeId) : Below w.heap.size w (((W.alloc (.cells #[x, y] t)).setCell ⟨W.heap.size, 0, none⟩ p).setCell ⟨W.heap.size, 1, none⟩ q) :=
  st1 (st1 (up h (al1 _ _)) _ _ _ h.size) _ _ _ h.size
theorem Glob.make {W : World} (h : Glob W) (x y p q : Value) (t : TypeId) : Glob (((W.alloc (.cells #[x, y] t)).setCell ⟨W.heap.size, 0, none⟩ p).setCell ⟨W.heap.size, 1, none⟩ q) :=
  h.below (below_make (Below.refl _ _) x y p q t)

theorem calls_world {P : Program} {f : FuncId} {args : Array Value} {w : World} {Q : Ending → World → Prop} (F : World → Prop) (h : F w) (k : ∀ W, F W → Calls P f args W Q) : Calls P f args w Q := k w h
end Go.Proofs.YtohhnkmfgfgpjaaGreatDoor
