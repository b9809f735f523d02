/- The references' Right, least and above. Conditions: the numbers are of int64 and int; rows of digits are as long as one another. -/
import Derived.Test.YtohhnkmfgfgpjaaDoorRefLong
namespace Go.Proofs.YtohhnkmfgfgpjaaDoor
open Go Go.RowKit Go.Proofs Th
attribute [local go_sem] Above.cell Above.frozen

theorem right_far {m e : Int} (h : e < -64 ∨ 64 < e) : right m e = false := by
  unfold right
  split
  · simp; omega
  · simp; omega
theorem right_norm (m e : Int) (r : (Int × Int) × Int) (h : norm (decide (m < 0)) m.natAbs e = r) : (if r.2 = 0 then (r.1.1 == m && r.1.2 == e) else false) = right m e := by
  cases hr : right m e with
  | true =>
    have h2 := normZ_right hr
    unfold normZ at h2
    rw [h2] at h
    subst h
    simp
  | false =>
    split
    · rename_i h0
      obtain ⟨⟨a, b⟩, c⟩ := r
      simp only at h0
      subst h0
      simp only [Bool.and_eq_false_iff, beq_eq_false_iff_ne]
      by_cases ha : a = m
      · by_cases hb : b = e
        · subst ha hb
          rw [right_of_norm h] at hr
          cases hr
        · right; exact hb
      · left; exact ha
    · rfl

theorem gtL_drop (a b : List Nat) (k : Nat) (ha : k < a.length) (hb : k < b.length) : gtL (a.drop k) (b.drop k) = if a[k] ≠ b[k] then decide (b[k] < a[k]) else gtL (a.drop (k + 1)) (b.drop (k + 1)) := by
  rw [List.drop_eq_getElem_cons ha, List.drop_eq_getElem_cons hb]
  rfl

end Go.Proofs.YtohhnkmfgfgpjaaDoor
