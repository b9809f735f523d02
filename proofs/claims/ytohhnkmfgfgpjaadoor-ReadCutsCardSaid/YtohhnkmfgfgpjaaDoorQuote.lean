/- The contracts of package quote: Right, Write. Conditions: unicode/utf8's tables hold what their initialisers lay. -/
import Derived.Test.YtohhnkmfgfgpjaaDoorShelf
import Derived.Deep.AppendLies
import Derived.Test.YtohhnkmfgfgpjaaDoorBytes
import Derived.Deep.LoopGhost
import Derived.Deep.RegionLaw
import Derived.Deep.DrawnRows
import Derived.Deep.CutBlock
import Derived.Deep.DeepCutAuto
import Derived.IntWalk
import Derived.Outline
namespace Go.Proofs.YtohhnkmfgfgpjaaDoor
open Go Go.RowKit Go.Proofs Th
attribute [local go_sem] Above.cell Above.frozen

/-- unicode/utf8's tables -/
def Utf (w : World) : Prop := Lib.Utf8Tabs 1 2 w
theorem Utf.below {w w' : World} (h : Utf w) (b : Below w.heap.size w w') : Utf w' := by
  refine ⟨fun c hc => (b.cell (lt_of_cell (h.1 c hc))).trans (h.1 c hc), fun i hi => ⟨(b.cell (lt_of_cell (h.2 i hi).1)).trans (h.2 i hi).1, (b.cell (lt_of_cell (h.2 i hi).2)).trans (h.2 i hi).2⟩⟩

theorem rune_ok' (l : List UInt8) (hb : ¬ badD l) : (Lib.decodeL l).1 < 55296 ∨ (57343 < (Lib.decodeL l).1 ∧ (Lib.decodeL l).1 ≤ 1114111) := by
  unfold badD at hb
  rw [Lib.decodeL_N] at hb ⊢
  have k0 := (l.getD 0 0).toNat_lt
  rcases Lib.decodeN_shape l.length (l.getD 0 0).toNat (l.getD 1 0).toNat (l.getD 2 0).toNat (l.getD 3 0).toNat with ⟨c, e⟩ | ⟨c1, c2, c3, cv, e⟩ | ⟨c1, c2, c3, c4, cv, cs, e⟩ | ⟨c1, c2, c3, c4, c5, cv, cw, e⟩ | e
  all_goals (rw [e] at hb ⊢; dsimp only at hb ⊢)
  · omega
  · omega
  · omega
  · omega
  · exact absurd ⟨rfl, rfl⟩ hb
theorem iter_new (w : World) (s : ByteArray) {k : Nat} (h : w.heap.size = k) : Iter (w.iter s 0) k s 0 := by
  subst h; exact World.iter_heap w s 0
theorem below_iter (w : World) (s : ByteArray) (pos : Nat) : Below w.heap.size w (w.iter s pos) := al1 w _
theorem below_at {w W : World} (h : Below w.heap.size w W) {k : Nat} (hk : w.heap.size ≤ k) (s : ByteArray) (pos : Nat) : Below w.heap.size w (W.iterAt k s pos) := Lib.below_iterAt h hk s pos
theorem own_iter {w : World} {base : Nat} {v : Value} {bs : List UInt8} (h : OwnB w base v bs) (s : ByteArray) (pos : Nat) : OwnB (w.iter s pos) base v bs := h.below (below_iter w s pos) (Nat.le_refl _)
set_option maxRecDepth 100000 in
theorem and15 : ∀ X : Fin 32, bits .and .i32 ((X.val : Nat) : Int) 15 = ((X.val % 16 : Nat) : Int) := by decide
set_option maxRecDepth 100000 in
theorem hexi : ∀ (d : Nat), d < 16 → ∀ w : World, (Instr.index 9 (.string ⟨#[48, 49, 50, 51, 52, 53, 54, 55, 56, 57, 97, 98, 99, 100, 101, 102]⟩) (.int .i32 (d : Int))).run Tryd.prog w = .ok (.int .u8 ((hexS d).toNat : Int)) w := by
  intro d h w
  have : d = 0 ∨ d = 1 ∨ d = 2 ∨ d = 3 ∨ d = 4 ∨ d = 5 ∨ d = 6 ∨ d = 7 ∨ d = 8 ∨ d = 9 ∨ d = 10 ∨ d = 11 ∨ d = 12 ∨ d = 13 ∨ d = 14 ∨ d = 15 := by omega
  rcases this with rfl | rfl | rfl | rfl | rfl | rfl | rfl | rfl | rfl | rfl | rfl | rfl | rfl | rfl | rfl | rfl
  all_goals (clear h; revert w; intro w; first | rfl | (show _ = _; kernel_rfl))
theorem append_rune (B : Nat) (v : Value) (acc : List UInt8) (c : Nat) (hc : c ≤ 1114111) (w : World) (hO : OwnB w B v acc) (hl : acc.length ≤ 100000000000) (hB : B ≤ w.heap.size) :
    Calls Tryd.prog 20 #[v, .int .i32 c] w fun r w' => ∃ v', r = .returned v' ∧ OwnB w' B v' (acc ++ Lib.encodeRune c) ∧ Below B w w' ∧ (∀ k s pos, Iter w k s pos → Iter w' k s pos) := by
  refine (Tryd.utf8_AppendRune_plain B v acc.length (Lib.byteCells acc) c (by omega) (by omega) w hO (by omega) hB).mono ?_
  rintro r w' ⟨v', rfl, h1, o, h2⟩
  refine ⟨v', rfl, ?_, ((Below.refl B w).alloc hB o).grown h2 (by simp; omega) fun k hk => (World.ownsRow.lt hO k hk).1, fun k s pos hi => (hi.alloc o).grown (hO.alloc o) h2⟩
  unfold OwnB
  rw [List.length_append, Lib.byteCells_append, Lib.byteCells_encodeRune, ← Lib.runeCells_length]
  exact h1
theorem quote_Right (s : ByteArray) (hs : s.size ≤ 9223372036854775807) (w : World) (hu : Utf w) : Calls Tryd.prog 24 #[.string s] w fun r w' => r = .returned (.bool (Lib.validD s.data.toList)) ∧ Below w.heap.size w w' := by
  go_enter Tryd.func24, Tryd.ntmps24
  go_wp2_with fail
  refine (Tryd.utf8_ValidString s _ hs hu).mono ?_
  rintro r w1 ⟨rfl, hb⟩
  go_wp2
  go_ret
  exact ⟨rfl, hb⟩
end Go.Proofs.YtohhnkmfgfgpjaaDoor
