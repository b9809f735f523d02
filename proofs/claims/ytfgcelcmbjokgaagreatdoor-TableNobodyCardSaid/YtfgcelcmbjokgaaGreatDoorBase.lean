/- What serves every walk: worlds above a world, regions that draw their order next to callees that make memory. No conditions. -/
import Derived.WalkKit
import Derived.WalkSpells
import Derived.BigQuiet
import Derived.Deep.QuietTactic
namespace Th
open Go Go.RowKit

/-- a fact kept from every tactic of the walk -/
structure Keep (p : Prop) : Prop where
  out : p

/-- a world that differs from W by what was made since alone -/
def Above (W : World) : Type := { w' : World // Below W.heap.size W w' }

theorem lt_of_cell {W : World} {a : Addr} {v : Value} (h : W.cell? a = some v) : a.block < W.heap.size := World.block_lt_of_cell? W a h

theorem Above.keeps {W : World} {a : Addr} {v : Value} (h : W.cell? a = some v) (x : Above W) : x.val.cell? a = some v := (x.property.cell (lt_of_cell h)).trans h
theorem Above.cell {W : World} (x : Above W) {a : Addr} (h : a.block < W.heap.size) : x.val.cell? a = W.cell? a := x.property.cell h
theorem Above.frozen {W : World} (x : Above W) {a : Addr} (h : a.block < W.heap.size) : x.val.frozen? a = W.frozen? a := x.property.frozen h

instance (W : World) : Nonempty (Above W) := ⟨⟨W, Below.refl _ _⟩⟩

theorem below_drawn (W : World) : Below W.heap.size W { W with drawn := W.drawn + 1 } := ⟨rfl, rfl, rfl, Nat.le_refl _, fun _ _ => rfl⟩

/-- a region that draws its order, whose operations read, and whose callees make memory of their own: walked once, in the order of the text -/
theorem wp_region_above {P : Program} {id : Nat} {Q : Exit → Act → World → Prop} {a : Act} {w : World} {l : List Oper} (hm : P.follows .mixedOrders = true) (hB : Region.lexB .any l.toArray = true)
    (h : wpQuiet P l.toArray (fun w' => ∃ x : Above w, w' = x.val) (fun a' => ∀ w', (∃ x : Above w, w' = x.val) → Q .normal a' w') l a) : (Code.region id l.toArray true).wp P Q a w :=
  wp_region_quiet (C := fun w' => ∃ x : Above w, w' = x.val) hm hB ⟨⟨_, below_drawn w⟩, rfl⟩ (by simpa using h)

theorem calls_above {P : Program} {f : FuncId} {args : Array Value} {W : World} {x : Above W} {v : Value} (h : Calls P f args x.val fun e w' => e = .returned v ∧ Below x.val.heap.size x.val w') :
    Calls P f args x.val fun e w'' => e = .returned v ∧ ∃ y : Above W, w'' = y.val :=
  h.mono fun _ w' ⟨he, hb⟩ => ⟨he, ⟨w', x.property.trans (hb.mono x.property.size)⟩, rfl⟩

theorem bcell {W w1 : World} (hb : Below W.heap.size W w1) : (∀ b o, b < W.heap.size → w1.cell? ⟨b, o, none⟩ = W.cell? ⟨b, o, none⟩) ∧ (∀ b o, b < W.heap.size → w1.frozen? ⟨b, o, none⟩ = W.frozen? ⟨b, o, none⟩) :=
  ⟨fun b o h => hb.cell (p := ⟨b, o, none⟩) h, fun b o h => hb.frozen (p := ⟨b, o, none⟩) h⟩

/-- the same, above a world that lies before -/
theorem wp_region_from {P : Program} {W0 : World} {id : Nat} {Q : Exit → Act → World → Prop} {a : Act} {w : World} {l : List Oper} (hb : Below W0.heap.size W0 w) (hm : P.follows .mixedOrders = true) (hB : Region.lexB .any l.toArray = true)
    (h : wpQuiet P l.toArray (fun w' => ∃ x : Above W0, w' = x.val) (fun a' => ∀ w', (∃ x : Above W0, w' = x.val) → Q .normal a' w') l a) : (Code.region id l.toArray true).wp P Q a w :=
  wp_region_quiet (C := fun w' => ∃ x : Above W0, w' = x.val) hm hB ⟨⟨_, hb.trans ((below_drawn w).mono hb.size)⟩, rfl⟩ (by simpa using h)

theorem calls_same {P : Program} {f : FuncId} {args : Array Value} {w : World} {v : Value} (h : Calls P f args w fun e w' => e = .returned v ∧ w' = w) : Calls P f args w fun e w' => e = .returned v ∧ Below w.heap.size w w' :=
  h.mono fun _ _ ⟨he, hw⟩ => ⟨he, by rw [hw]; exact Below.refl _ _⟩

/-- the world alone is forgotten, but for what is said of it -/
theorem wp_world {P : Program} {c : Code} {Q : Exit → Act → World → Prop} {a : Act} {w : World} (F : World → Prop) (h : F w) (k : ∀ W, F W → c.wp P Q a W) : c.wp P Q a w := k w h

theorem up {w W0 w1 : World} (h : Below w.heap.size w W0) (hb : Below W0.heap.size W0 w1) : Below w.heap.size w w1 := h.trans (hb.mono h.size)
theorem al1 (w : World) (o : Obj) : Below w.heap.size w (w.alloc o) := (Below.refl _ _).alloc (Nat.le_refl _) _
theorem al2 (w : World) (o p : Obj) : Below w.heap.size w ((w.alloc o).alloc p) := up (al1 w o) (al1 _ p)
theorem al3 (w : World) (o p q : Obj) : Below w.heap.size w (((w.alloc o).alloc p).alloc q) := up (al2 w o p) (al1 _ q)
theorem al4 (w : World) (o p q r : Obj) : Below w.heap.size w ((((w.alloc o).alloc p).alloc q).alloc r) := up (al3 w o p q) (al1 _ r)
theorem st1 {w W : World} (h : Below w.heap.size w W) (b o : Nat) (v : Value) (hb : w.heap.size ≤ b) : Below w.heap.size w (W.setCell ⟨b, o, none⟩ v) := h.setCell hb v

end Th
