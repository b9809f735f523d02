/- The references' Depth, all, Bulk of values. Conditions: those that each names.
The references' one of values: may a value be, by itself? Conditions: those that each names.
The references' one of values: the walk. Conditions: those that each names.
The references' all, Right, Bulk of values. Conditions: those that each names.
The references' Bulk of values. Conditions: those that it names. -/
import Derived.Test.YtohhnkmfgfgpjaaDoorVal
import Derived.Test.YtohhnkmfgfgpjaaDoorRef2
import Derived.Test.YtohhnkmfgfgpjaaDoorRefRight
import Derived.Test.YtohhnkmfgfgpjaaDoorLaw
import Derived.Outline
import Derived.Deep.CutBlock
import Derived.Deep.DeepCutAuto
import Derived.WalkLawsBesides
import Derived.IntWalk
namespace Go.Proofs.YtohhnkmfgfgpjaaDoor
open Go Go.RowKit Go.Proofs Th
attribute [local go_sem] Above.cell Above.frozen

theorem depthL_take (l : List JV) (k : Nat) (h : k < l.length) : depthL (l.take (k + 1)) = max (depthL (l.take k)) (depthJ l[k]) := by
  have : ∀ a b : List JV, depthL (a ++ b) = max (depthL a) (depthL b) := by
    intro a b
    induction a with
    | nil => simp [depthL]
    | cons x a ih => simp only [List.cons_append, depthL, ih]; omega
  rw [List.take_succ_eq_append_getElem h, this]
  simp [depthL]
theorem depthL_take_le (l : List JV) (k : Nat) : depthL (l.take k) ≤ depthL l := by
  have : ∀ a b : List JV, depthL (a ++ b) = max (depthL a) (depthL b) := by
    intro a b
    induction a with
    | nil => simp [depthL]
    | cons x a ih => simp only [List.cons_append, depthL, ih]; omega
  have h := this (l.take k) (l.drop k)
  rw [List.take_append_drop] at h
  omega
theorem depth_count : ∀ (t : JV), depthJ t ≤ countJ t
  | .mk k m e s l ks => by
    have h : ∀ l : List JV, (∀ x ∈ l, depthJ x ≤ countJ x) → depthL l ≤ countL l := by
      intro l
      induction l with
      | nil => intro _; exact Nat.le_refl _
      | cons x l ih =>
        intro h
        have h1 := ih (fun y hy => h y (by simp [hy]))
        have h2 := h x (by simp)
        show max _ _ ≤ _ + _
        omega
    have := h l (fun x hx => depth_count x)
    show 1 + depthL l ≤ 1 + countL l
    omega
theorem box_new6 {w : World} {t : TypeId} (k m e : Int) (s : ByteArray) (A : Option Addr) (n c : Nat) (A' : Option Addr) (n' c' : Nat) : Box (w.alloc (.cells #[.int .i64 k, .int .i64 m, .int .i64 e, .string s, .slice A n c, .slice A' n' c'] t)) w.heap.size (cells6 k m e s A n c A' n' c') :=
  Box.new (cells6 k m e s A n c A' n' c') t rfl
end Go.Proofs.YtohhnkmfgfgpjaaDoor
namespace Go.Proofs.YtohhnkmfgfgpjaaDoor
open Go Go.RowKit Go.Proofs Th
attribute [local go_sem] Above.cell Above.frozen

/-- the key at place j is a text, above the one ahead of it -/
def keyOk (ks : List ByteArray) (j : Nat) : Bool := Lib.validD (ks.getD j ⟨#[]⟩).data.toList && (decide (j = 0) || Op.bytesLess (ks.getD (j - 1) ⟨#[]⟩).data.toList (ks.getD j ⟨#[]⟩).data.toList)
theorem rise_iff : ∀ (ks : List ByteArray), riseK ks = true ↔ ∀ j, j < ks.length → keyOk ks j = true
  | [] => by simp [riseK]
  | [a] => by
    simp only [riseK, List.length_singleton]
    constructor
    · intro h j hj
      obtain rfl : j = 0 := by omega
      simp [keyOk, h]
    · intro h
      have := h 0 (by omega)
      simpa [keyOk] using this
  | a :: b :: r => by
    rw [show riseK (a :: b :: r) = (Lib.validD a.data.toList && Op.bytesLess a.data.toList b.data.toList && riseK (b :: r)) from rfl, Bool.and_eq_true, Bool.and_eq_true, rise_iff (b :: r)]
    constructor
    · rintro ⟨⟨h1, h2⟩, h3⟩ j hj
      cases j with
      | zero => simp [keyOk, h1]
      | succ j =>
        have h4 := h3 j (by simpa using hj)
        cases j with
        | zero =>
          simp only [keyOk, List.getD_cons_zero, decide_true, Bool.true_or, Bool.and_true] at h4
          simp [keyOk, h2, h4]
        | succ j => simpa [keyOk] using h4
    · intro h
      have h0 := h 0 (by simp)
      have h1 := h 1 (by simp)
      simp only [keyOk, List.getD_cons_zero, decide_true, Bool.true_or, Bool.and_true] at h0
      simp [keyOk] at h1
      refine ⟨⟨h0, h1.2⟩, fun j hj => ?_⟩
      cases j with
      | zero => simp [keyOk, h1.1]
      | succ j =>
        have h4 := h (j + 2) (by simpa using hj)
        simpa [keyOk] using h4

/-- what the reference lays beside a value: its kind's own fields -/
structure PlainOf (k m e : Int) (s : ByteArray) (n n' : Nat) (pm pe : Int) (ps : ByteArray) (q q' : Nat) : Prop where
  num : pm = (if k = 3 then m else 0) ∧ pe = (if k = 3 then e else 0)
  txt : ps = if k = 4 then s else ⟨#[]⟩
  lst : q = if k = 5 ∨ k = 6 then n else 0
  key : q' = if k = 6 then n' else 0
theorem one_kind (k m e : Int) (s : ByteArray) (l : List JV) (ks : List ByteArray) (h : k < 0 ∨ 6 < k) : okOne (.mk k m e s l ks) = false := by
  simp only [okOne]
  rw [decide_eq_false (show ¬ (0 ≤ k ∧ k ≤ 6) by omega)]
  rfl
theorem one_named (m e : Int) (s : ByteArray) (l : List JV) (ks : List ByteArray) (h : ks.length ≠ l.length) : okOne (.mk 6 m e s l ks) = false := by
  unfold okOne
  simp [h]
theorem one_val {k m e : Int} {s : ByteArray} {l : List JV} {ks : List ByteArray} {pm pe : Int} {ps : ByteArray} {q q' : Nat} (hp : PlainOf k m e s l.length ks.length pm pe ps q q') (h0 : 0 ≤ k) (h6 : k ≤ 6) (hn : k = 6 → ks.length = l.length) :
    okOne (.mk k m e s l ks) = (riseK ks && ((pm == m && pe == e) && (ps.toList == s.toList) && decide (q = l.length) && decide (q' = ks.length) && right m e && Lib.validD s.data.toList)) := by
  obtain ⟨⟨rfl, rfl⟩, rfl, rfl, rfl⟩ := hp
  have e1 : ((if k = 3 then m else 0) == m && (if k = 3 then e else 0) == e) = (decide (k = 3) || (decide (m = 0) && decide (e = 0))) := by
    by_cases hk : k = 3
    · rw [if_pos hk, if_pos hk, decide_eq_true hk, beq_self_eq_true, beq_self_eq_true]; rfl
    · rw [if_neg hk, if_neg hk, decide_eq_false hk, Bool.false_or, Bool.eq_iff_iff]
      simp only [Bool.and_eq_true, beq_iff_eq, decide_eq_true_eq]
      exact ⟨fun ⟨a, b⟩ => ⟨a.symm, b.symm⟩, fun ⟨a, b⟩ => ⟨a.symm, b.symm⟩⟩
  have e2 : ((if k = 4 then s else ⟨#[]⟩ : ByteArray).toList == s.toList) = (decide (k = 4) || decide (s.size = 0)) := by
    by_cases hk : k = 4
    · rw [if_pos hk, decide_eq_true hk, beq_self_eq_true]; rfl
    · rw [if_neg hk, decide_eq_false hk, Bool.eq_iff_iff, ba_list, ba_list]
      simp only [beq_iff_eq, Bool.false_or, decide_eq_true_eq]
      rw [← size_listU s]
      constructor
      · intro h; rw [← h]; rfl
      · intro h; exact (List.eq_nil_of_length_eq_zero h).symm
  have e3 : decide ((if k = 5 ∨ k = 6 then l.length else 0) = l.length) = (decide (5 ≤ k) || decide (l.length = 0)) := by
    by_cases hk : k = 5 ∨ k = 6
    · rw [if_pos hk, decide_eq_true rfl, decide_eq_true (by omega)]; rfl
    · rw [if_neg hk, decide_eq_false (show ¬ 5 ≤ k by omega), Bool.false_or, Bool.eq_iff_iff, decide_eq_true_eq, decide_eq_true_eq]; omega
  have e4 : decide ((if k = 6 then ks.length else 0) = ks.length) = (decide (k = 6) || decide (ks.length = 0)) := by
    by_cases hk : k = 6
    · rw [if_pos hk, decide_eq_true rfl, decide_eq_true hk]; rfl
    · rw [if_neg hk, decide_eq_false hk, Bool.false_or, Bool.eq_iff_iff, decide_eq_true_eq, decide_eq_true_eq]; omega
  have e5 : (decide (k ≠ 6) || decide (ks.length = l.length)) = true := by
    by_cases hk : k = 6
    · simp [hn hk]
    · simp [hk]
  rw [e1, e2, e3, e4]
  simp only [okOne]
  rw [decide_eq_true (show 0 ≤ k ∧ k ≤ 6 from ⟨h0, h6⟩), e5]
  generalize (decide (k = 3) || (decide (m = 0) && decide (e = 0))) = b1
  generalize (decide (k = 4) || decide (s.size = 0)) = b2
  generalize (decide (5 ≤ k) || decide (l.length = 0)) = b3
  generalize (decide (k = 6) || decide (ks.length = 0)) = b4
  generalize riseK ks = b5
  cases b1 <;> cases b2 <;> cases b3 <;> cases b4 <;> cases b5 <;> simp
end Go.Proofs.YtohhnkmfgfgpjaaDoor
namespace Go.Proofs.YtohhnkmfgfgpjaaDoor
open Go Go.RowKit Go.Proofs Th
attribute [local go_sem] Above.cell Above.frozen

end Go.Proofs.YtohhnkmfgfgpjaaDoor
namespace Go.Proofs.YtohhnkmfgfgpjaaDoor
open Go Go.RowKit Go.Proofs Th
attribute [local go_sem] Above.cell Above.frozen

theorem allL_take (l : List JV) (k : Nat) (h : k < l.length) : allL (l.take (k + 1)) = (allL (l.take k) && allJ l[k]) := by
  have : ∀ a b : List JV, allL (a ++ b) = (allL a && allL b) := by
    intro a b
    induction a with
    | nil => simp [allL]
    | cons x a ih => simp only [List.cons_append, allL, ih, Bool.and_assoc]
  rw [List.take_succ_eq_append_getElem h, this]
  simp [allL]
theorem allL_false (l : List JV) (k : Nat) (h : k < l.length) (hf : allJ l[k] = false) : allL l = false := by
  have : ∀ a b : List JV, allL (a ++ b) = (allL a && allL b) := by
    intro a b
    induction a with
    | nil => simp [allL]
    | cons x a ih => simp only [List.cons_append, allL, ih, Bool.and_assoc]
  have h1 := this (l.take (k + 1)) (l.drop (k + 1))
  rw [List.take_append_drop, allL_take l k h, hf, Bool.and_false, Bool.false_and] at h1
  exact h1
end Go.Proofs.YtohhnkmfgfgpjaaDoor
namespace Go.Proofs.YtohhnkmfgfgpjaaDoor
open Go Go.RowKit Go.Proofs Th
attribute [local go_sem] Above.cell Above.frozen

theorem keysN_take (ks : List ByteArray) (j : Nat) (h : j < ks.length) : keysN (ks.take (j + 1)) = keysN (ks.take j) + 1 + ks[j].size := by
  have : ∀ a b : List ByteArray, keysN (a ++ b) = keysN a + keysN b := by
    intro a b
    induction a with
    | nil => simp [keysN]
    | cons x a ih => simp only [List.cons_append, keysN, ih]; omega
  rw [List.take_succ_eq_append_getElem h, this]
  simp only [keysN]; omega
theorem sizeL_take (l : List JV) (j : Nat) (h : j < l.length) : sizeL (l.take (j + 1)) = sizeL (l.take j) + sizeJ l[j] := by
  have : ∀ a b : List JV, sizeL (a ++ b) = sizeL a + sizeL b := by
    intro a b
    induction a with
    | nil => simp [sizeL]
    | cons x a ih => simp only [List.cons_append, sizeL, ih]; omega
  rw [List.take_succ_eq_append_getElem h, this]
  simp only [sizeL]; omega
end Go.Proofs.YtohhnkmfgfgpjaaDoor
