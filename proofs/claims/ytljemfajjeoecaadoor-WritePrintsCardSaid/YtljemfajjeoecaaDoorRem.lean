/- num.whole, num.Rem, num.Floor. Conditions: Glob; the numbers are of int64. -/
import Derived.Test.YtljemfajjeoecaaDoorMul
import Derived.Test.YtljemfajjeoecaaDoorFmt
import Derived.Test.YtljemfajjeoecaaDoorTail
namespace Go.Proofs.YtljemfajjeoecaaDoor
open Go Go.RowKit Go.Proofs Th
attribute [local go_sem] Above.cell Above.frozen

/-- how many digits -/
def nd (m : Int) : Nat := Lib.nDigits m.natAbs
def wOk (m e : Int) : Bool := !(decide (e < 0)) && decide ((nd m : Int) + e ≤ 18)
def wN (m e : Int) : Nat := m.natAbs * 10 ^ e.toNat
def remN (m1 e1 m2 e2 : Int) : (Int × Int) × Int :=
  if wrongS m1 e1 m2 e2 ≠ 0 then ((0, 0), wrongS m1 e1 m2 e2) else if wOk m1 e1 && wOk m2 e2 then norm (decide (m1 < 0)) (wN m1 e1 % wN m2 e2) 0 else ((0, 0), 11)
def flq (m e : Int) : Nat := if -18 ≤ e then m.natAbs / 10 ^ (-e).toNat else 0
def floorLow (m e : Int) : (Int × Int) × Int := norm (decide (m < 0)) (flq m e + if m < 0 then 1 else 0) 0
def floorN (m e : Int) : (Int × Int) × Int :=
  if right m e then (if 0 ≤ e then ((m, e), 0) else floorLow m e) else ((0, 0), 10)

theorem lt_pow_nd (u : Nat) : u < 10 ^ Lib.nDigits u := Lib.lt_pow_nDigits u
theorem nd_pos (m : Int) : 1 ≤ nd m := by
  unfold nd
  by_cases h : m.natAbs < 10
  · rw [Lib.nDigits_small h]; omega
  · rw [Lib.nDigits_big h]; omega
theorem wN_lt {m e : Int} (he : 0 ≤ e) (h : (nd m : Int) + e ≤ 18) : wN m e < 1000000000000000000 := by
  unfold wN
  have h1 : m.natAbs < 10 ^ nd m := lt_pow_nd _
  have h2 : m.natAbs * 10 ^ e.toNat < 10 ^ nd m * 10 ^ e.toNat := Nat.mul_lt_mul_of_pos_right h1 (Nat.pow_pos (by omega))
  rw [← Nat.pow_add] at h2
  have h3 : (10 : Nat) ^ (nd m + e.toNat) ≤ 10 ^ 18 := Nat.pow_le_pow_right (by omega) (by omega)
  omega

/-- the text of a number's size -/
theorem fmt_size (m e : Int) (hm : I64 m) (hr : right m e = true) : ∃ (A : Int) (S : ByteArray), (m.natAbs : Int) = A ∧ S = ⟨(Lib.decDigits m.natAbs).toArray⟩ ∧ S.size = nd m ∧
    (∀ w, Calls Tryd.prog 65 #[.agg #[.int .i64 m, .int .i64 e]] w fun r w' => r = .returned (.int .u64 A) ∧ Below w.heap.size w w') ∧
    (∀ w, Glob w → Calls Tryd.prog 64 #[.int .u64 A, .int .i64 10] w fun r w' => r = .returned (.string S) ∧ Below w.heap.size w w') := by
  refine ⟨_, _, rfl, rfl, ?_, fun w => num_size m e hm.lo hm.hi w, fun w hg => formatUint m.natAbs (by have := right_size hr; omega) w hg⟩
  show (Lib.decDigits m.natAbs).toArray.size = _
  rw [List.size_toArray, Lib.decDigits_length]; rfl

/-- num.whole: whether a number is whole and not too long -/
theorem whole_not (m e : Int) (hm : I64 m) (hr : right m e = true) (ho : wOk m e = false) (w : World) (hg : Glob w) : Calls Tryd.prog 80 #[.agg #[.int .i64 m, .int .i64 e]] w fun r w' =>
    r = .returned (.tuple #[.int .u64 0, .bool false]) ∧ Below w.heap.size w w' := by
  obtain ⟨A, S, hAA, hSS, hS, hsA, hfA⟩ := fmt_size m e hm hr
  clear hAA hSS
  have hx := right_exp hr
  have hn : decide (e < 0) = true ∨ (decide (e < 0) = false ∧ decide (18 < (S.size : Int) + e) = true) := by
    unfold wOk at ho
    by_cases h : e < 0
    · left; simpa using h
    · right; simp [h] at ho; refine ⟨by simpa using h, ?_⟩; rw [hS]; simpa using ho
  have hSb : S.size ≤ 20 := by
    have h1 := nd_pos m
    rw [hS]; unfold nd
    have h2 := right_size hr
    by_cases h0 : m.natAbs = 0
    · rw [h0, Lib.nDigits_small (by omega)]; omega
    · have h3 := Lib.numDigits_eq m.natAbs (by omega) (by omega)
      split at h3 <;> omega
  have HA := Keep.mk hsA
  have HF := Keep.mk hfA
  have HS := Keep.mk hS
  clear hsA hfA hS ho
  rcases hn with h1 | ⟨h1, h2⟩
  all_goals
    go_enter Tryd.func80, Tryd.ntmps80
    go_wp2_with fail
    refine (HA.out _).mono ?_
    rintro r w1 ⟨rfl, hb1⟩
    obtain ⟨hc, hf⟩ := bcell hb1
    go_wp2_with fail
    refine (HF.out _ (hg.below (up (al1 _ _) hb1))).mono ?_
    rintro r w2 ⟨rfl, hb2'⟩
    have hb2 := up hb1 hb2'
    clear hc hf
    obtain ⟨hc, hf⟩ := bcell hb2
    go_wp2
    go_ret2
    exact ⟨rfl, up (al1 _ _) hb2⟩

set_option maxRecDepth 100000 in
theorem whole_yes (m e : Int) (hm : I64 m) (hr : right m e = true) (ho : wOk m e = true) (w : World) (hg : Glob w) : Calls Tryd.prog 80 #[.agg #[.int .i64 m, .int .i64 e]] w fun r w' =>
    r = .returned (.tuple #[.int .u64 (wN m e), .bool true]) ∧ Below w.heap.size w w' := by
  obtain ⟨A, S, hA, hSS, hS, hsA, hfA⟩ := fmt_size m e hm hr
  clear hSS
  have hx := right_exp hr
  have hh : 0 ≤ e ∧ (nd m : Int) + e ≤ 18 := by unfold wOk at ho; simp at ho; exact ho
  obtain ⟨he0, hh2⟩ := hh
  have hnd := nd_pos m
  have h1 : decide (e < 0) = false := by simp; omega
  have h2 : decide (18 < (S.size : Int) + e) = false := by rw [hS]; simp; omega
  have hSb : S.size ≤ 20 := by omega
  have hT : pten e = pten e := rfl
  obtain ⟨T, hT⟩ : ∃ T, T = pten e := ⟨_, rfl⟩
  have hTb := pten_bd e he0 (by omega)
  rw [← hT] at hTb
  obtain ⟨hT0, hT1⟩ := hTb
  have hwn := wN_lt he0 hh2
  have hAT : A * T = wN m e := by rw [← hA, hT]; unfold pten wN; rw [← Int.natCast_mul]
  have hmul : IntKind.u64.wrap (A * T) = wN m e := by rw [hAT, IntKind.wrap_u64]; omega
  have htc : Keep (∀ W, Glob W → W.cell? ⟨0, e.toNat, none⟩ = some (.int .u64 T)) := ⟨fun W hW => by rw [hW.tens _ (by omega), hT]; rfl⟩
  have he18 : e ≤ 18 := by omega
  have hA0 : 0 ≤ A := by omega
  have HA := Keep.mk hsA
  have HF := Keep.mk hfA
  have HS := Keep.mk hS
  have HT := Keep.mk hT
  have HM := Keep.mk hmul
  clear hsA hfA hS ho hT hA hwn hAT hh2 hmul
  go_enter Tryd.func80, Tryd.ntmps80
  go_wp2_with fail
  refine (HA.out _).mono ?_
  rintro r w1 ⟨rfl, hb1⟩
  obtain ⟨hc, hf⟩ := bcell hb1
  go_wp2_with fail
  refine (HF.out _ (hg.below (up (al1 _ _) hb1))).mono ?_
  rintro r w2 ⟨rfl, hb2'⟩
  have hb2 := up hb1 hb2'
  clear hc hf
  obtain ⟨hc, hf⟩ := bcell hb2
  have ht : ∀ y : Above (w.alloc (.cells #[.int .i64 m, .int .i64 e] 23)), y.val.cell? ⟨0, e.toNat, none⟩ = some (.int .u64 T) := fun y => htc.out _ (hg.below (up (al1 _ _) y.property))
  have hmul := HM.out
  go_wp2_with fail
  refine wp_region_from hb2 (by kernel_rfl) (by kernel_rfl) ?_
  repeat (go_big_quiet_step ((go_at_call 65; exact calls_above (HA.out _))))
  refine wpQuiet_nil ?_
  rintro _ ⟨x3, rfl⟩
  have hb3 := x3.property
  clear hc hf
  obtain ⟨hc, hf⟩ := bcell hb3
  go_wp2
  go_ret2
  exact ⟨rfl, up (al1 _ _) hb3⟩

theorem num_whole (m e : Int) (hm : I64 m) (hr : right m e = true) (w : World) (hg : Glob w) : Calls Tryd.prog 80 #[.agg #[.int .i64 m, .int .i64 e]] w fun r w' =>
    r = .returned (.tuple #[.int .u64 (if wOk m e then (wN m e : Int) else 0), .bool (wOk m e)]) ∧ Below w.heap.size w w' := by
  cases ho : wOk m e
  · exact whole_not m e hm hr ho w hg
  · exact whole_yes m e hm hr ho w hg

theorem rem_wrong (m1 e1 m2 e2 : Int) (hm1 : I64 m1) (hm2 : I64 m2) (c : Int) (hw : wrongS m1 e1 m2 e2 = c) (hc0 : (c != 0) = true) (w : World) (hg : Glob w) : Calls Tryd.prog 40 #[.agg #[.int .i64 m1, .int .i64 e1], .agg #[.int .i64 m2, .int .i64 e2]] w fun r w' =>
    r = .returned (numRes ((0, 0), c)) ∧ Below w.heap.size w w' := by
  have HW := Keep.mk hw
  clear hw
  go_enter Tryd.func40, Tryd.ntmps40
  go_wp2_with fail
  refine (num_wrong m1 e1 m2 e2 hm1 hm2 _ (hg.below (al3 _ _ _ _))).mono ?_
  rw [HW.out]
  rintro r w1 ⟨rfl, hb1⟩
  obtain ⟨hc, hf⟩ := bcell hb1
  go_wp2_with fail
  refine (num_zero _).mono ?_
  rintro r w2 ⟨rfl, hb2'⟩
  have hb2 := up hb1 hb2'
  clear hc hf
  obtain ⟨hc, hf⟩ := bcell hb2
  go_wp2
  refine bodyPost_ret (v := numRes ((0, 0), c)) ?_ rfl ⟨rfl, ?_⟩
  · simp [numRes, results, Tryd.results40, go_sem, hc]
  · exact st1 (st1 (up (al3 _ _ _ _) hb2) _ _ _ (by omega)) _ _ _ (by omega)

theorem right_of_wrongS {m1 e1 m2 e2 : Int} (h : wrongS m1 e1 m2 e2 = 0) : right m1 e1 = true ∧ right m2 e2 = true ∧ m2 ≠ 0 := by
  unfold wrongS at h
  cases h1 : right m1 e1 <;> cases h2 : right m2 e2 <;> simp [h1, h2] at h ⊢
  exact h

theorem rem_not (m1 e1 m2 e2 : Int) (hm1 : I64 m1) (hm2 : I64 m2) (hw : wrongS m1 e1 m2 e2 = 0) (ho : wOk m1 e1 = false ∨ (wOk m1 e1 = true ∧ wOk m2 e2 = false)) (w : World) (hg : Glob w) : Calls Tryd.prog 40 #[.agg #[.int .i64 m1, .int .i64 e1], .agg #[.int .i64 m2, .int .i64 e2]] w fun r w' =>
    r = .returned (numRes ((0, 0), 11)) ∧ Below w.heap.size w w' := by
  obtain ⟨h1, h2, _⟩ := right_of_wrongS hw
  have HW := Keep.mk hw
  clear hw
  rcases ho with ho | ⟨ho, ho2⟩
  · go_enter Tryd.func40, Tryd.ntmps40
    go_wp2_with fail
    refine (num_wrong m1 e1 m2 e2 hm1 hm2 _ (hg.below (al3 _ _ _ _))).mono ?_
    rw [HW.out]
    rintro r w1 ⟨rfl, hb1⟩
    obtain ⟨hc, hf⟩ := bcell hb1
    go_wp2_with fail
    refine (num_whole m1 e1 hm1 h1 _ (hg.below (up (al3 _ _ _ _) hb1))).mono ?_
    rw [ho]
    simp only [Bool.false_eq_true, ↓reduceIte]
    rintro r w2 ⟨rfl, hb2'⟩
    have hb2 := up hb1 hb2'
    clear hc hf
    obtain ⟨hc, hf⟩ := bcell hb2
    cases hO2 : wOk m2 e2
    · go_wp2_with fail
      refine (num_whole m2 e2 hm2 h2 _ (hg.below (up (al3 _ _ _ _) hb2))).mono ?_
      rw [hO2]
      simp only [Bool.false_eq_true, ↓reduceIte]
      rintro r w3 ⟨rfl, hb3'⟩
      have hb3 := up hb2 hb3'
      clear hc hf
      obtain ⟨hc, hf⟩ := bcell hb3
      go_wp2_with fail
      refine (num_zero _).mono ?_
      rintro r w4 ⟨rfl, hb4'⟩
      have hb4 := up hb3 hb4'
      clear hc hf
      obtain ⟨hc, hf⟩ := bcell hb4
      go_wp2
      refine bodyPost_ret (v := numRes ((0, 0), 11)) ?_ rfl ⟨rfl, ?_⟩
      · simp [numRes, results, Tryd.results40, go_sem, hc]
      · exact st1 (st1 (up (al3 _ _ _ _) hb4) _ _ _ (by omega)) _ _ _ (by omega)
    · go_wp2_with fail
      refine (num_whole m2 e2 hm2 h2 _ (hg.below (up (al3 _ _ _ _) hb2))).mono ?_
      rw [hO2]
      simp only [↓reduceIte]
      rintro r w3 ⟨rfl, hb3'⟩
      have hb3 := up hb2 hb3'
      clear hc hf
      obtain ⟨hc, hf⟩ := bcell hb3
      go_wp2_with fail
      refine (num_zero _).mono ?_
      rintro r w4 ⟨rfl, hb4'⟩
      have hb4 := up hb3 hb4'
      clear hc hf
      obtain ⟨hc, hf⟩ := bcell hb4
      go_wp2
      refine bodyPost_ret (v := numRes ((0, 0), 11)) ?_ rfl ⟨rfl, ?_⟩
      · simp [numRes, results, Tryd.results40, go_sem, hc]
      · exact st1 (st1 (up (al3 _ _ _ _) hb4) _ _ _ (by omega)) _ _ _ (by omega)
  · go_enter Tryd.func40, Tryd.ntmps40
    go_wp2_with fail
    refine (num_wrong m1 e1 m2 e2 hm1 hm2 _ (hg.below (al3 _ _ _ _))).mono ?_
    rw [HW.out]
    rintro r w1 ⟨rfl, hb1⟩
    obtain ⟨hc, hf⟩ := bcell hb1
    go_wp2_with fail
    refine (num_whole m1 e1 hm1 h1 _ (hg.below (up (al3 _ _ _ _) hb1))).mono ?_
    rw [ho]
    simp only [↓reduceIte]
    rintro r w2 ⟨rfl, hb2'⟩
    have hb2 := up hb1 hb2'
    clear hc hf
    obtain ⟨hc, hf⟩ := bcell hb2
    go_wp2_with fail
    refine (num_whole m2 e2 hm2 h2 _ (hg.below (up (al3 _ _ _ _) hb2))).mono ?_
    rw [ho2]
    simp only [Bool.false_eq_true, ↓reduceIte]
    rintro r w3 ⟨rfl, hb3'⟩
    have hb3 := up hb2 hb3'
    clear hc hf
    obtain ⟨hc, hf⟩ := bcell hb3
    go_wp2_with fail
    refine (num_zero _).mono ?_
    rintro r w4 ⟨rfl, hb4'⟩
    have hb4 := up hb3 hb4'
    clear hc hf
    obtain ⟨hc, hf⟩ := bcell hb4
    go_wp2
    refine bodyPost_ret (v := numRes ((0, 0), 11)) ?_ rfl ⟨rfl, ?_⟩
    · simp [numRes, results, Tryd.results40, go_sem, hc]
    · exact st1 (st1 (up (al3 _ _ _ _) hb4) _ _ _ (by omega)) _ _ _ (by omega)

set_option maxRecDepth 100000 in
theorem rem_some (m1 e1 m2 e2 : Int) (hm1 : I64 m1) (hm2 : I64 m2) (hw : wrongS m1 e1 m2 e2 = 0) (ho1 : wOk m1 e1 = true) (ho2 : wOk m2 e2 = true) (w : World) (hg : Glob w) : Calls Tryd.prog 40 #[.agg #[.int .i64 m1, .int .i64 e1], .agg #[.int .i64 m2, .int .i64 e2]] w fun r w' =>
    r = .returned (numRes (norm (decide (m1 < 0)) (wN m1 e1 % wN m2 e2) 0)) ∧ Below w.heap.size w w' := by
  obtain ⟨h1, h2, hm2n⟩ := right_of_wrongS hw
  have hh1 : 0 ≤ e1 ∧ (nd m1 : Int) + e1 ≤ 18 := by unfold wOk at ho1; simp at ho1; exact ho1
  have hh2 : 0 ≤ e2 ∧ (nd m2 : Int) + e2 ≤ 18 := by unfold wOk at ho2; simp at ho2; exact ho2
  have hX := wN_lt hh1.1 hh1.2
  have hY := wN_lt hh2.1 hh2.2
  have hY0 : wN m2 e2 ≠ 0 := by
    unfold wN
    have : 0 < m2.natAbs * 10 ^ e2.toNat := Nat.mul_pos (by omega) (Nat.pow_pos (by omega))
    omega
  obtain ⟨X, hXX⟩ : ∃ X : Int, X = (wN m1 e1 : Int) := ⟨_, rfl⟩
  obtain ⟨Y, hYY⟩ : ∃ Y : Int, Y = (wN m2 e2 : Int) := ⟨_, rfl⟩
  have hX0 : 0 ≤ X := by omega
  have hX1 : X < 1000000000000000000 := by omega
  have hY1 : 1 ≤ Y := by omega
  have hY2 : Y < 1000000000000000000 := by omega
  have hR0 : 0 ≤ X % Y := Int.emod_nonneg _ (by omega)
  have hR1 : X % Y < Y := Int.emod_lt_of_pos _ (by omega)
  have HE := Keep.mk (show wide 0 (X % Y) = wN m1 e1 % wN m2 e2 by unfold wide; rw [hXX, hYY]; omega)
  have HX := Keep.mk hXX
  have HY := Keep.mk hYY
  have HW := Keep.mk hw
  clear hw hh1 hh2 hX hY hY0 hXX hYY hm2n
  go_enter Tryd.func40, Tryd.ntmps40
  go_wp2_with fail
  refine (num_wrong m1 e1 m2 e2 hm1 hm2 _ (hg.below (al3 _ _ _ _))).mono ?_
  rw [HW.out]
  rintro r w1 ⟨rfl, hb1⟩
  obtain ⟨hc, hf⟩ := bcell hb1
  go_wp2_with fail
  refine (num_whole m1 e1 hm1 h1 _ (hg.below (up (al3 _ _ _ _) hb1))).mono ?_
  rw [ho1]
  simp only [↓reduceIte]
  rw [← HX.out]
  rintro r w2 ⟨rfl, hb2'⟩
  have hb2 := up hb1 hb2'
  clear hc hf
  obtain ⟨hc, hf⟩ := bcell hb2
  go_wp2_with fail
  refine (num_whole m2 e2 hm2 h2 _ (hg.below (up (al3 _ _ _ _) hb2))).mono ?_
  rw [ho2]
  simp only [↓reduceIte]
  rw [← HY.out]
  rintro r w3 ⟨rfl, hb3'⟩
  have hb3 := up hb2 hb3'
  clear hc hf
  obtain ⟨hc, hf⟩ := bcell hb3
  have hmade : Keep (∀ y : Above (((w.alloc (.cells #[.int .i64 m1, .int .i64 e1] 23)).alloc (.cells #[.int .i64 m2, .int .i64 e2] 23)).alloc (.cells #[.int .i64 0, .int .i64 0] 23)), Calls Tryd.prog 59 #[.bool (decide (m1 < 0)), .int .u64 0, .int .u64 (X % Y), .int .i64 0] y.val fun r w' => r = .returned (numRes (norm (decide (m1 < 0)) (wN m1 e1 % wN m2 e2) 0)) ∧ Below y.val.heap.size y.val w') := ⟨fun y => by rw [← HE.out]; exact num_made (decide (m1 < 0)) 0 (X % Y) 0 (by omega) (by omega) hR0 (by omega) (by omega) (by omega) _ (hg.below (up (al3 _ _ _ _) y.property))⟩
  generalize hp : norm (decide (m1 < 0)) (wN m1 e1 % wN m2 e2) 0 = p at hmade
  obtain ⟨⟨pm, pe⟩, pr⟩ := p
  have HP := Keep.mk hp
  clear hp
  simp only [numRes] at hmade
  go_wp2_with fail
  refine wp_region_tail 9 hb3 (by kernel_rfl) (by kernel_rfl) ?_
  simp only [List.take_succ_cons, List.take_zero, List.drop_succ_cons, List.drop_zero]
  repeat (go_big_quiet_step ((go_at_call 59; exact calls_above (hmade.out _))))
  refine wpQuiet_nil ?_
  rintro _ ⟨x4, rfl⟩
  have hb4 := x4.property
  clear hc hf
  obtain ⟨hc, hf⟩ := bcell hb4
  go_wp2
  refine bodyPost_ret (v := numRes ((pm, pe), pr)) ?_ rfl ⟨num_res HP.out.symm, ?_⟩
  · simp [numRes, results, Tryd.results40, go_sem, hc]
  · exact st1 (st1 (up (al3 _ _ _ _) hb4) _ _ _ (by omega)) _ _ _ (by omega)

theorem num_rem (m1 e1 m2 e2 : Int) (hm1 : I64 m1) (hm2 : I64 m2) (w : World) (hg : Glob w) : Calls Tryd.prog 40 #[.agg #[.int .i64 m1, .int .i64 e1], .agg #[.int .i64 m2, .int .i64 e2]] w fun r w' =>
    r = .returned (numRes (remN m1 e1 m2 e2)) ∧ Below w.heap.size w w' := by
  unfold remN
  by_cases hw : wrongS m1 e1 m2 e2 = 0
  · rw [if_neg (by rw [hw]; simp)]
    cases h1 : wOk m1 e1
    · exact rem_not m1 e1 m2 e2 hm1 hm2 hw (Or.inl h1) w hg
    · cases h2 : wOk m2 e2
      · exact rem_not m1 e1 m2 e2 hm1 hm2 hw (Or.inr ⟨h1, h2⟩) w hg
      · exact rem_some m1 e1 m2 e2 hm1 hm2 hw h1 h2 w hg
  · rw [if_pos hw]
    exact rem_wrong m1 e1 m2 e2 hm1 hm2 _ rfl (by simpa using hw) w hg

theorem floor_wrong (m e : Int) (hm : I64 m) (h : right m e = false) (w : World) (hg : Glob w) : Calls Tryd.prog 36 #[.agg #[.int .i64 m, .int .i64 e]] w fun r w' =>
    r = .returned (numRes ((0, 0), 10)) ∧ Below w.heap.size w w' := by
  go_enter Tryd.func36, Tryd.ntmps36
  go_wp2_with fail
  refine (num_Right m e hm.lo hm.hi _ (hg.below (al2 _ _ _))).mono ?_
  rw [h]
  rintro r w1 ⟨rfl, hb1⟩
  obtain ⟨hc, hf⟩ := bcell hb1
  go_wp2_with fail
  refine (num_zero _).mono ?_
  rintro r w2 ⟨rfl, hb2'⟩
  have hb2 := up hb1 hb2'
  clear hc hf
  obtain ⟨hc, hf⟩ := bcell hb2
  go_wp2
  refine bodyPost_ret (v := numRes ((0, 0), 10)) ?_ rfl ⟨rfl, ?_⟩
  · simp [numRes, results, Tryd.results36, go_sem, hc]
  · exact st1 (st1 (up (al2 _ _ _) hb2) _ _ _ (by omega)) _ _ _ (by omega)

theorem floor_whole (m e : Int) (hm : I64 m) (h : right m e = true) (he : 0 ≤ e) (w : World) (hg : Glob w) : Calls Tryd.prog 36 #[.agg #[.int .i64 m, .int .i64 e]] w fun r w' =>
    r = .returned (numRes ((m, e), 0)) ∧ Below w.heap.size w w' := by
  go_enter Tryd.func36, Tryd.ntmps36
  go_wp2_with fail
  refine (num_Right m e hm.lo hm.hi _ (hg.below (al2 _ _ _))).mono ?_
  rw [h]
  rintro r w1 ⟨rfl, hb1⟩
  obtain ⟨hc, hf⟩ := bcell hb1
  go_wp2
  refine bodyPost_ret (v := numRes ((m, e), 0)) ?_ rfl ⟨rfl, ?_⟩
  · simp [numRes, results, Tryd.results36, go_sem, hc]
  · exact st1 (st1 (up (al2 _ _ _) hb1) _ _ _ (by omega)) _ _ _ (by omega)

set_option maxRecDepth 100000 in
theorem floor_low (m e : Int) (hm : I64 m) (h : right m e = true) (he : e < -18) (w : World) (hg : Glob w) : Calls Tryd.prog 36 #[.agg #[.int .i64 m, .int .i64 e]] w fun r w' =>
    r = .returned (numRes (floorLow m e)) ∧ Below w.heap.size w w' := by
  have hx := right_exp h
  have hEq1 : Keep (m < 0 → norm true (wide 0 1) 0 = floorLow m e) := ⟨fun hm => by unfold floorLow; rw [if_pos hm, decide_eq_true hm]; unfold flq; rw [if_neg (by omega)]; rfl⟩
  have hEq2 : Keep (¬ m < 0 → norm false (wide 0 0) 0 = floorLow m e) := ⟨fun hm => by unfold floorLow; rw [if_neg hm, decide_eq_false hm]; unfold flq; rw [if_neg (by omega)]; rfl⟩
  have he0 : e < 0 := by omega
  by_cases hn : m < 0
  · have hnn := Keep.mk hn
    have hnF : (m < 0) = True := by simp; omega
    clear hn
    go_enter Tryd.func36, Tryd.ntmps36
    go_wp2_with fail
    refine (num_Right m e hm.lo hm.hi _ (hg.below (al2 _ _ _))).mono ?_
    rw [h]
    rintro r w1 ⟨rfl, hb1⟩
    obtain ⟨hc, hf⟩ := bcell hb1
    go_wp2_with fail
    refine (num_made true 0 1 0 (by omega) (by omega) (by omega) (by omega) (by omega) (by omega) _ (hg.below (up (al2 _ _ _) hb1))).mono ?_
    rw [hEq1.out hnn.out]
    generalize hp : floorLow m e = p
    obtain ⟨⟨pm, pe⟩, pr⟩ := p
    have HP := Keep.mk hp
    clear hp
    simp only [numRes]
    rintro r w2 ⟨rfl, hb2'⟩
    have hb2 := up hb1 hb2'
    clear hc hf
    obtain ⟨hc, hf⟩ := bcell hb2
    go_wp2
    refine bodyPost_ret (v := numRes ((pm, pe), pr)) ?_ rfl ⟨num_res HP.out.symm, ?_⟩
    · simp [numRes, results, Tryd.results36, go_sem, hc]
    · exact st1 (st1 (up (al2 _ _ _) hb2) _ _ _ (by omega)) _ _ _ (by omega)
  · have hnn := Keep.mk hn
    have hnF : (m < 0) = False := by simp; omega
    clear hn
    go_enter Tryd.func36, Tryd.ntmps36
    go_wp2_with fail
    refine (num_Right m e hm.lo hm.hi _ (hg.below (al2 _ _ _))).mono ?_
    rw [h]
    rintro r w1 ⟨rfl, hb1⟩
    obtain ⟨hc, hf⟩ := bcell hb1
    go_wp2_with fail
    refine (num_made false 0 0 0 (by omega) (by omega) (by omega) (by omega) (by omega) (by omega) _ (hg.below (up (al2 _ _ _) hb1))).mono ?_
    rw [hEq2.out hnn.out]
    generalize hp : floorLow m e = p
    obtain ⟨⟨pm, pe⟩, pr⟩ := p
    have HP := Keep.mk hp
    clear hp
    simp only [numRes]
    rintro r w2 ⟨rfl, hb2'⟩
    have hb2 := up hb1 hb2'
    clear hc hf
    obtain ⟨hc, hf⟩ := bcell hb2
    go_wp2
    refine bodyPost_ret (v := numRes ((pm, pe), pr)) ?_ rfl ⟨num_res HP.out.symm, ?_⟩
    · simp [numRes, results, Tryd.results36, go_sem, hc]
    · exact st1 (st1 (up (al2 _ _ _) hb2) _ _ _ (by omega)) _ _ _ (by omega)

set_option maxRecDepth 100000 in
theorem floor_mid (m e : Int) (hm : I64 m) (h : right m e = true) (he0 : e < 0) (he : -18 ≤ e) (w : World) (hg : Glob w) : Calls Tryd.prog 36 #[.agg #[.int .i64 m, .int .i64 e]] w fun r w' =>
    r = .returned (numRes (floorLow m e)) ∧ Below w.heap.size w w' := by
  have hx := right_exp h
  obtain ⟨A, hA⟩ : ∃ A : Int, A = (m.natAbs : Int) := ⟨_, rfl⟩
  have hsA : Keep (∀ w, Calls Tryd.prog 65 #[.agg #[.int .i64 m, .int .i64 e]] w fun r w' => r = .returned (.int .u64 A) ∧ Below w.heap.size w w') := ⟨fun w => by rw [hA]; exact num_size m e hm.lo hm.hi w⟩
  have hA0 : 0 ≤ A := by omega
  have hA1 : A < 1000000000000000000 := by have := right_size h; omega
  obtain ⟨T, hT⟩ : ∃ T, T = pten (-e) := ⟨_, rfl⟩
  have hTb := pten_bd (-e) (by omega) (by omega)
  rw [← hT] at hTb
  obtain ⟨hT0, hT1⟩ := hTb
  have hq0 : 0 ≤ A / T := Int.ediv_nonneg hA0 (by omega)
  have hq1 : A / T ≤ A := Int.ediv_le_self _ hA0
  have htc : Keep (∀ W, Glob W → W.cell? ⟨0, (-e).toNat, none⟩ = some (.int .u64 T)) := ⟨fun W hW => by rw [hW.tens _ (by omega), hT]; rfl⟩
  have hQ : Keep (A / T = (flq m e : Int)) := ⟨by rw [hA, hT]; unfold flq pten; rw [if_pos he]; omega⟩
  have hEq1 : Keep (∀ x : Int, x = flq m e → m < 0 → norm true (wide 0 (x + 1)) 0 = floorLow m e) := ⟨fun x hx hm => by unfold floorLow; rw [if_pos hm, decide_eq_true hm]; congr 1; unfold wide; omega⟩
  have hEq2 : Keep (∀ x : Int, x = flq m e → ¬ m < 0 → norm false (wide 0 x) 0 = floorLow m e) := ⟨fun x hx hm => by unfold floorLow; rw [if_neg hm, decide_eq_false hm]; congr 1; unfold wide; omega⟩
  clear hA hT
  by_cases hn : m < 0
  · have hnn := Keep.mk hn
    have hnF : (m < 0) = True := by simp; omega
    clear hn
    go_enter Tryd.func36, Tryd.ntmps36
    go_wp2_with fail
    refine (num_Right m e hm.lo hm.hi _ (hg.below (al2 _ _ _))).mono ?_
    rw [h]
    rintro r w1 ⟨rfl, hb1⟩
    obtain ⟨hc, hf⟩ := bcell hb1
    have ht : ∀ y : Above ((w.alloc (.cells #[.int .i64 m, .int .i64 e] 23)).alloc (.cells #[.int .i64 0, .int .i64 0] 23)), y.val.cell? ⟨0, (-e).toNat, none⟩ = some (.int .u64 T) := fun y => htc.out _ (hg.below (up (al2 _ _ _) y.property))
    go_wp2_with fail
    refine wp_region_from hb1 (by kernel_rfl) (by kernel_rfl) ?_
    repeat (go_big_quiet_step ((go_at_call 65; exact calls_above (hsA.out _))))
    refine wpQuiet_nil ?_
    rintro _ ⟨x2, rfl⟩
    have hb2 := x2.property
    clear hc hf
    obtain ⟨hc, hf⟩ := bcell hb2
    go_wp2_with fail
    refine (num_made true 0 (A / T + 1) 0 (by omega) (by omega) (by omega) (by omega) (by omega) (by omega) _ (hg.below (up (al2 _ _ _) hb2))).mono ?_
    rw [hEq1.out _ hQ.out hnn.out]
    generalize hp : floorLow m e = p
    obtain ⟨⟨pm, pe⟩, pr⟩ := p
    have HP := Keep.mk hp
    clear hp
    simp only [numRes]
    rintro r w3 ⟨rfl, hb3'⟩
    have hb3 := up hb2 hb3'
    clear hc hf
    obtain ⟨hc, hf⟩ := bcell hb3
    go_wp2
    refine bodyPost_ret (v := numRes ((pm, pe), pr)) ?_ rfl ⟨num_res HP.out.symm, ?_⟩
    · simp [numRes, results, Tryd.results36, go_sem, hc]
    · exact st1 (st1 (up (al2 _ _ _) hb3) _ _ _ (by omega)) _ _ _ (by omega)
  · have hnn := Keep.mk hn
    have hnF : (m < 0) = False := by simp; omega
    clear hn
    go_enter Tryd.func36, Tryd.ntmps36
    go_wp2_with fail
    refine (num_Right m e hm.lo hm.hi _ (hg.below (al2 _ _ _))).mono ?_
    rw [h]
    rintro r w1 ⟨rfl, hb1⟩
    obtain ⟨hc, hf⟩ := bcell hb1
    have ht : ∀ y : Above ((w.alloc (.cells #[.int .i64 m, .int .i64 e] 23)).alloc (.cells #[.int .i64 0, .int .i64 0] 23)), y.val.cell? ⟨0, (-e).toNat, none⟩ = some (.int .u64 T) := fun y => htc.out _ (hg.below (up (al2 _ _ _) y.property))
    go_wp2_with fail
    refine wp_region_from hb1 (by kernel_rfl) (by kernel_rfl) ?_
    repeat (go_big_quiet_step ((go_at_call 65; exact calls_above (hsA.out _))))
    refine wpQuiet_nil ?_
    rintro _ ⟨x2, rfl⟩
    have hb2 := x2.property
    clear hc hf
    obtain ⟨hc, hf⟩ := bcell hb2
    go_wp2_with fail
    refine (num_made false 0 (A / T) 0 (by omega) (by omega) (by omega) (by omega) (by omega) (by omega) _ (hg.below (up (al2 _ _ _) hb2))).mono ?_
    rw [hEq2.out _ hQ.out hnn.out]
    generalize hp : floorLow m e = p
    obtain ⟨⟨pm, pe⟩, pr⟩ := p
    have HP := Keep.mk hp
    clear hp
    simp only [numRes]
    rintro r w3 ⟨rfl, hb3'⟩
    have hb3 := up hb2 hb3'
    clear hc hf
    obtain ⟨hc, hf⟩ := bcell hb3
    go_wp2
    refine bodyPost_ret (v := numRes ((pm, pe), pr)) ?_ rfl ⟨num_res HP.out.symm, ?_⟩
    · simp [numRes, results, Tryd.results36, go_sem, hc]
    · exact st1 (st1 (up (al2 _ _ _) hb3) _ _ _ (by omega)) _ _ _ (by omega)

theorem num_floor (m e : Int) (hm : I64 m) (w : World) (hg : Glob w) : Calls Tryd.prog 36 #[.agg #[.int .i64 m, .int .i64 e]] w fun r w' =>
    r = .returned (numRes (floorN m e)) ∧ Below w.heap.size w w' := by
  unfold floorN
  cases h : right m e
  · exact floor_wrong m e hm h w hg
  · by_cases he : 0 ≤ e
    · simp only [↓reduceIte]; rw [if_pos he]; exact floor_whole m e hm h he w hg
    · simp only [↓reduceIte]; rw [if_neg he]
      by_cases h2 : -18 ≤ e
      · exact floor_mid m e hm h (by omega) h2 w hg
      · exact floor_low m e hm h (by omega) w hg
end Go.Proofs.YtljemfajjeoecaaDoor
