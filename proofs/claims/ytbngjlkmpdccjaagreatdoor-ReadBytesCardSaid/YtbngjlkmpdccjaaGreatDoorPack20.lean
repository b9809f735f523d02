/- Lemmas and contracts for the laws ReadParses, ReadBytes, part 20 of 50: RefRight, TokI. Conditions: those that each lemma names. -/
import Derived.Test.YtbngjlkmpdccjaaGreatDoorPack19
import Derived.Test.YtbngjlkmpdccjaaGreatDoorPack12
import Derived.Test.YtbngjlkmpdccjaaGreatDoorPack18
namespace Go.Proofs.YtbngjlkmpdccjaaGreatDoor
open Go Go.RowKit Go.Proofs Th
attribute [local go_sem] Above.cell
theorem right_far {m e : Int} (h : e < -64 ∨ 64 < e) : right m e = false := by
  unfold right
  split
  · simp; omega
  · simp; omega
theorem right_norm (m e : Int) (r : (Int × Int) × Int) (h : norm (decide (m < 0)) m.natAbs e = r) : (if r.2 = 0 then (r.1.1 == m && r.1.2 == e) else false) = right m e := by
  cases hr : right m e with
  | true =>
    have h2 := normZ_right hr
    unfold normZ at h2
    rw [h2] at h
    subst h
    simp
  | false =>
    split
    · rename_i h0
      obtain ⟨⟨a, b⟩, c⟩ := r
      simp only at h0
      subst h0
      simp only [Bool.and_eq_false_iff, beq_eq_false_iff_ne]
      by_cases ha : a = m
      · by_cases hb : b = e
        · subst ha hb
          rw [right_of_norm h] at hr
          cases hr
        · right; exact hb
      · left; exact ha
    · rfl
set_option maxRecDepth 100000 in
theorem ref_Right (m e : Int) (hm : I64 m) (w : World) :
    Calls Tryz.prog 110 #[.agg #[.int .i64 m, .int .i64 e]] w fun r w' => r = .returned (.bool (right m e)) ∧ Below w.heap.size w w' := by
  by_cases h1 : e < -64
  · have HR := Keep.mk (right_far (m := m) (Or.inl h1))
    go_enter Tryz.func110, Tryz.ntmps110
    go_wp2
    go_ret
    exact ⟨ret_bool HR.out.symm, al1 _ _⟩
  by_cases h2 : 64 < e
  · have HR := Keep.mk (right_far (m := m) (Or.inr h2))
    go_enter Tryz.func110, Tryz.ntmps110
    go_wp2
    go_ret
    exact ⟨ret_bool HR.out.symm, al1 _ _⟩
  have HN := Keep.mk (digs_len m.natAbs (by have := hm.lo; have := hm.hi; omega))
  have HD := Keep.mk (digs_digs m.natAbs)
  have HV := Keep.mk (val_digs m.natAbs)
  obtain ⟨r, hr⟩ : ∃ r, norm (decide (m < 0)) m.natAbs e = r := ⟨_, rfl⟩
  have HR := Keep.mk (right_norm m e r hr)
  have HE := Keep.mk (norm_err (decide (m < 0)) m.natAbs e)
  have HH := Keep.mk hr
  clear hr
  go_enter Tryz.func110, Tryz.ntmps110
  go_wp2_with fail
  refine (ref_long m e hm _).mono ?_
  rintro r1 w1 ⟨A, c, rfl, hI, hb1⟩
  unfold longV
  go_wp2_with fail
  refine (ref_short (decide (m < 0)) A c (digs m.natAbs) e HD.out (by have := HN.out; omega) (by omega) (by omega) w1 hI).mono ?_
  rw [HV.out, HH.out]
  rintro r2 w2 ⟨rfl, hb2'⟩
  have hb2 := up hb1 hb2'
  obtain ⟨hc, hf⟩ := bcell hb2
  have n0 : w.heap.size < w2.heap.size := by have := hb2.size; simp at this; omega
  obtain ⟨⟨a, b⟩, k⟩ := r
  by_cases hk : k = 0
  · subst hk
    have HR2 := Keep.mk (show (a == m && b == e) = right m e from HR.out)
    unfold numRes
    go_wp2
    go_ret
    exact ⟨ret_bool HR2.out, up (up (al1 _ _) hb2) (al1 _ _)⟩
  · have hkb : (k == 0) = false := by simpa using hk
    have HR2 := Keep.mk (show false = right m e by have := HR.out; rw [if_neg hk] at this; exact this)
    unfold numRes
    go_wp2
    go_ret
    exact ⟨ret_bool HR2.out, up (up (al1 _ _) hb2) (al1 _ _)⟩
end Go.Proofs.YtbngjlkmpdccjaaGreatDoor
namespace Go.Proofs.YtbngjlkmpdccjaaGreatDoor
open Go Go.RowKit Go.Proofs Th Go.Lib
theorem fin_i64 (neg : Bool) (m : Nat) (e : Int) : I64 (fin neg m e).1.1 ∧ I64 (fin neg m e).1.2 := by
  unfold fin
  split
  · exact ⟨⟨by decide, by decide⟩, ⟨by decide, by decide⟩⟩
  · rename_i h
    refine ⟨⟨?_, ?_⟩, ⟨?_, ?_⟩⟩ <;> cases neg <;> simp <;> omega
theorem core_i64 (neg : Bool) (u : List UInt8) : I64 (coreN neg u).1.1 ∧ I64 (coreN neg u).1.2 := by
  unfold coreN
  split
  · exact ⟨⟨by decide, by decide⟩, ⟨by decide, by decide⟩⟩
  · unfold norm
    split
    · exact ⟨⟨by decide, by decide⟩, ⟨by decide, by decide⟩⟩
    · exact fin_i64 _ _ _
theorem parse_i64 (l : List UInt8) : I64 (parseN l).1.1 ∧ I64 (parseN l).1.2 := by
  unfold parseN
  split <;> exact core_i64 _ _
theorem small_i64 {k : Int} (h : 0 ≤ k ∧ k ≤ 6) : I64 k := ⟨by omega, by omega⟩
theorem tok_i64 (l : List UInt8) (a : Nat) : I64 (nextT l a).k ∧ I64 (nextT l a).m ∧ I64 (nextT l a).x := by
  have h0 : I64 0 := small_i64 (by omega)
  unfold nextT
  generalize a + runB blankC (l.drop a) = b
  generalize l.drop b = m
  cases m with
  | nil => exact ⟨h0, h0, h0⟩
  | cons c r =>
    simp only [oneT]
    split
    · exact ⟨h0, h0, h0⟩
    split
    · exact ⟨small_i64 (by simp), h0, h0⟩
    split
    · refine ⟨small_i64 ?_, h0, h0⟩
      show 0 ≤ (wordV (c :: r)).1 ∧ (wordV (c :: r)).1 ≤ 6
      unfold wordV
      repeat' split
      all_goals simp
    split
    · exact ⟨small_i64 (by simp), (parse_i64 _).1, (parse_i64 _).2⟩
    · exact ⟨h0, h0, h0⟩
end Go.Proofs.YtbngjlkmpdccjaaGreatDoor
