/- Lemmas and contracts for the laws CalcParts, part 1 of 33: NumMath, Base. Conditions: those that each lemma names. -/
import Derived.Lib.TrimByte
import Derived.WalkKit
import Derived.WalkSpells
import Derived.BigQuiet
import Derived.Deep.QuietTactic
namespace Th
def val (ds : List Nat) : Nat := ds.foldl (fun a d => a * 10 + d) 0
theorem foldl_val (ds : List Nat) (a : Nat) : ds.foldl (fun a d => a * 10 + d) a = a * 10 ^ ds.length + val ds := by
  unfold val
  induction ds generalizing a with
  | nil => simp
  | cons d ds ih =>
    simp only [List.foldl_cons, List.length_cons]
    rw [ih (a * 10 + d), ih (0 * 10 + d)]
    simp only [Nat.zero_mul, Nat.zero_add, Nat.pow_succ, Nat.add_mul]
    rw [Nat.mul_assoc, Nat.mul_comm 10]
    omega
@[simp] theorem val_nil : val [] = 0 := rfl
theorem val_cons (d : Nat) (ds : List Nat) : val (d :: ds) = d * 10 ^ ds.length + val ds := by
  show (d :: ds).foldl _ 0 = _
  rw [List.foldl_cons, foldl_val]; simp
theorem val_snoc (ds : List Nat) (d : Nat) : val (ds ++ [d]) = val ds * 10 + d := by
  unfold val; rw [List.foldl_append]; rfl
def fin (neg : Bool) (m : Nat) (e : Int) : (Int × Int) × Int :=
  if 1000000000000000000 ≤ m ∨ e < -64 ∨ 64 < e then ((0, 0), 11) else ((if neg then -(m : Int) else m, e), 0)
def right (m e : Int) : Bool := if m = 0 then e == 0 else decide (m.natAbs < 1000000000000000000) && decide (m.natAbs % 10 ≠ 0) && decide (-64 ≤ e) && decide (e ≤ 64)
theorem tmod_ten (m : Int) : m.tmod 10 = 0 ↔ m.natAbs % 10 = 0 := by
  rw [← Int.dvd_iff_tmod_eq_zero]; omega
theorem right_cases (m e : Int) (hm : m ≠ 0) :
    (decide ((m.natAbs : Int) < 1000000000000000000) = false ∧ right m e = false) ∨
    (decide ((m.natAbs : Int) < 1000000000000000000) = true ∧ (m.tmod 10 != 0) = false ∧ right m e = false) ∨
    (decide ((m.natAbs : Int) < 1000000000000000000) = true ∧ (m.tmod 10 != 0) = true ∧ decide (-64 ≤ e) = false ∧ right m e = false) ∨
    (decide ((m.natAbs : Int) < 1000000000000000000) = true ∧ (m.tmod 10 != 0) = true ∧ decide (-64 ≤ e) = true ∧ right m e = decide (e ≤ 64)) := by
  have h1 : right m e = (decide (m.natAbs < 1000000000000000000) && decide (m.natAbs % 10 ≠ 0) && decide (-64 ≤ e) && decide (e ≤ 64)) := by unfold right; rw [if_neg hm]
  have h2 : decide ((m.natAbs : Int) < 1000000000000000000) = decide (m.natAbs < 1000000000000000000) := by rw [decide_eq_decide]; omega
  have h3 : (m.tmod 10 != 0) = decide (m.natAbs % 10 ≠ 0) := by
    rw [Bool.eq_iff_iff]; simp only [bne_iff_ne, ne_eq, decide_eq_true_eq, tmod_ten]
  rw [h1, h2, h3]
  cases decide (m.natAbs < 1000000000000000000) <;> cases decide (m.natAbs % 10 ≠ 0) <;> cases decide (-64 ≤ e) <;> simp
end Th
namespace Th
theorem right_spec {m e : Int} (h : right m e = true) (hm : m ≠ 0) : m.natAbs < 1000000000000000000 ∧ m.natAbs % 10 ≠ 0 ∧ -64 ≤ e ∧ e ≤ 64 := by
  unfold right at h
  rw [if_neg hm] at h
  simp only [Bool.and_eq_true, decide_eq_true_eq] at h
  exact ⟨h.1.1.1, h.1.1.2, h.1.2, h.2⟩
theorem right_exp {m e : Int} (h : right m e = true) : -64 ≤ e ∧ e ≤ 64 := by
  by_cases hm : m = 0
  · subst hm; simp [right] at h; omega
  · exact (right_spec h hm).2.2
theorem right_size {m e : Int} (h : right m e = true) : m.natAbs < 1000000000000000000 := by
  by_cases hm : m = 0
  · subst hm; decide
  · exact (right_spec h hm).1
end Th
namespace Th
def dg (c : UInt8) : Nat := c.toNat - 48
def dgs (l : List UInt8) : List Nat := l.map dg
end Th
namespace Th
open Go
def AllDig (l : List UInt8) : Prop := ∀ c ∈ l, 48 ≤ c.toNat ∧ c.toNat ≤ 57
theorem dgs_append (a b : List UInt8) : dgs (a ++ b) = dgs a ++ dgs b := List.map_append
end Th
namespace Th
end Th
namespace Th
open Go Go.RowKit
structure Keep (p : Prop) : Prop where
  out : p
def Above (W : World) : Type := { w' : World // Below W.heap.size W w' }
theorem lt_of_cell {W : World} {a : Addr} {v : Value} (h : W.cell? a = some v) : a.block < W.heap.size := World.block_lt_of_cell? W a h
theorem Above.cell {W : World} (x : Above W) {a : Addr} (h : a.block < W.heap.size) : x.val.cell? a = W.cell? a := x.property.cell h
instance (W : World) : Nonempty (Above W) := ⟨⟨W, Below.refl _ _⟩⟩
theorem below_drawn (W : World) : Below W.heap.size W { W with drawn := W.drawn + 1 } := ⟨rfl, rfl, rfl, Nat.le_refl _, fun _ _ => rfl⟩
theorem wp_region_above {P : Program} {id : Nat} {Q : Exit → Act → World → Prop} {a : Act} {w : World} {l : List Oper} (hm : P.follows .mixedOrders = true) (hB : Region.lexB .any l.toArray = true)
    (h : wpQuiet P l.toArray (fun w' => ∃ x : Above w, w' = x.val) (fun a' => ∀ w', (∃ x : Above w, w' = x.val) → Q .normal a' w') l a) : (Code.region id l.toArray true).wp P Q a w :=
  wp_region_quiet (C := fun w' => ∃ x : Above w, w' = x.val) hm hB ⟨⟨_, below_drawn w⟩, rfl⟩ (by simpa using h)
theorem calls_above {P : Program} {f : FuncId} {args : Array Value} {W : World} {x : Above W} {v : Value} (h : Calls P f args x.val fun e w' => e = .returned v ∧ Below x.val.heap.size x.val w') :
    Calls P f args x.val fun e w'' => e = .returned v ∧ ∃ y : Above W, w'' = y.val :=
  h.mono fun _ w' ⟨he, hb⟩ => ⟨he, ⟨w', x.property.trans (hb.mono x.property.size)⟩, rfl⟩
theorem bcell {W w1 : World} (hb : Below W.heap.size W w1) : (∀ b o, b < W.heap.size → w1.cell? ⟨b, o, none⟩ = W.cell? ⟨b, o, none⟩) ∧ (∀ b o, b < W.heap.size → w1.frozen? ⟨b, o, none⟩ = W.frozen? ⟨b, o, none⟩) :=
  ⟨fun b o h => hb.cell (p := ⟨b, o, none⟩) h, fun b o h => hb.frozen (p := ⟨b, o, none⟩) h⟩
theorem wp_region_from {P : Program} {W0 : World} {id : Nat} {Q : Exit → Act → World → Prop} {a : Act} {w : World} {l : List Oper} (hb : Below W0.heap.size W0 w) (hm : P.follows .mixedOrders = true) (hB : Region.lexB .any l.toArray = true)
    (h : wpQuiet P l.toArray (fun w' => ∃ x : Above W0, w' = x.val) (fun a' => ∀ w', (∃ x : Above W0, w' = x.val) → Q .normal a' w') l a) : (Code.region id l.toArray true).wp P Q a w :=
  wp_region_quiet (C := fun w' => ∃ x : Above W0, w' = x.val) hm hB ⟨⟨_, hb.trans ((below_drawn w).mono hb.size)⟩, rfl⟩ (by simpa using h)
theorem wp_world {P : Program} {c : Code} {Q : Exit → Act → World → Prop} {a : Act} {w : World} (F : World → Prop) (h : F w) (k : ∀ W, F W → c.wp P Q a W) : c.wp P Q a w := k w h
theorem up {w W0 w1 : World} (h : Below w.heap.size w W0) (hb : Below W0.heap.size W0 w1) : Below w.heap.size w w1 := h.trans (hb.mono h.size)
theorem al1 (w : World) (o : Obj) : Below w.heap.size w (w.alloc o) := (Below.refl _ _).alloc (Nat.le_refl _) _
theorem al2 (w : World) (o p : Obj) : Below w.heap.size w ((w.alloc o).alloc p) := up (al1 w o) (al1 _ p)
theorem al3 (w : World) (o p q : Obj) : Below w.heap.size w (((w.alloc o).alloc p).alloc q) := up (al2 w o p) (al1 _ q)
end Th
