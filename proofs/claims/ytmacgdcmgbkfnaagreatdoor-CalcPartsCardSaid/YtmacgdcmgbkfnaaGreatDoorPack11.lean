/- Lemmas and contracts for the laws CalcParts, part 11 of 33: Ref3. Conditions: those that each lemma names. -/
import Derived.Test.YtmacgdcmgbkfnaaGreatDoorPack10
import Derived.Test.YtmacgdcmgbkfnaaGreatDoorPack5
import Derived.Test.YtmacgdcmgbkfnaaGreatDoorPack3
import Derived.Test.YtmacgdcmgbkfnaaGreatDoorPack1
import Derived.Test.YtmacgdcmgbkfnaaGreatDoorPack6
import Derived.Test.YtmacgdcmgbkfnaaGreatDoorPack9
import Derived.Outline
import Derived.Deep.CutBlock
import Derived.Deep.DeepCutAuto
import Derived.WalkLawsBesides
import Derived.IntWalk
import Derived.Deep.LoopGhost
namespace Go.Proofs.YtmacgdcmgbkfnaaGreatDoor
open Go Go.RowKit Go.Proofs Th
attribute [local go_sem] Above.cell
theorem box_new6 {w : World} {t : TypeId} (k m e : Int) (s : ByteArray) (A : Option Addr) (n c : Nat) (A' : Option Addr) (n' c' : Nat) : Box (w.alloc (.cells #[.int .i64 k, .int .i64 m, .int .i64 e, .string s, .slice A n c, .slice A' n' c'] t)) w.heap.size (cells6 k m e s A n c A' n' c') :=
  Box.new (cells6 k m e s A n c A' n' c') t rfl
end Go.Proofs.YtmacgdcmgbkfnaaGreatDoor
namespace Go.Proofs.YtmacgdcmgbkfnaaGreatDoor
open Go Go.RowKit Go.Proofs Th
attribute [local go_sem] Above.cell
def keyOk (ks : List ByteArray) (j : Nat) : Bool := Lib.validD (ks.getD j ⟨#[]⟩).data.toList && (decide (j = 0) || Op.bytesLess (ks.getD (j - 1) ⟨#[]⟩).data.toList (ks.getD j ⟨#[]⟩).data.toList)
theorem rise_iff : ∀ (ks : List ByteArray), riseK ks = true ↔ ∀ j, j < ks.length → keyOk ks j = true
  | [] => by simp [riseK]
  | [a] => by
    simp only [riseK, List.length_singleton]
    constructor
    · intro h j hj
      obtain rfl : j = 0 := by omega
      simp [keyOk, h]
    · intro h
      have := h 0 (by omega)
      simpa [keyOk] using this
  | a :: b :: r => by
    rw [show riseK (a :: b :: r) = (Lib.validD a.data.toList && Op.bytesLess a.data.toList b.data.toList && riseK (b :: r)) from rfl, Bool.and_eq_true, Bool.and_eq_true, rise_iff (b :: r)]
    constructor
    · rintro ⟨⟨h1, h2⟩, h3⟩ j hj
      cases j with
      | zero => simp [keyOk, h1]
      | succ j =>
        have h4 := h3 j (by simpa using hj)
        cases j with
        | zero =>
          simp only [keyOk, List.getD_cons_zero, decide_true, Bool.true_or, Bool.and_true] at h4
          simp [keyOk, h2, h4]
        | succ j => simpa [keyOk] using h4
    · intro h
      have h0 := h 0 (by simp)
      have h1 := h 1 (by simp)
      simp only [keyOk, List.getD_cons_zero, decide_true, Bool.true_or, Bool.and_true] at h0
      simp [keyOk] at h1
      refine ⟨⟨h0, h1.2⟩, fun j hj => ?_⟩
      cases j with
      | zero => simp [keyOk, h1.1]
      | succ j =>
        have h4 := h (j + 2) (by simpa using hj)
        simpa [keyOk] using h4
end Go.Proofs.YtmacgdcmgbkfnaaGreatDoor
namespace Go.Proofs.YtmacgdcmgbkfnaaGreatDoor
open Go Go.RowKit Go.Proofs Th
attribute [local go_sem] Above.cell
end Go.Proofs.YtmacgdcmgbkfnaaGreatDoor
namespace Go.Proofs.YtmacgdcmgbkfnaaGreatDoor
open Go Go.RowKit Go.Proofs Th
attribute [local go_sem] Above.cell
end Go.Proofs.YtmacgdcmgbkfnaaGreatDoor
namespace Go.Proofs.YtmacgdcmgbkfnaaGreatDoor
open Go Go.RowKit Go.Proofs Th
attribute [local go_sem] Above.cell
end Go.Proofs.YtmacgdcmgbkfnaaGreatDoor
