/- num.Sub, num.Mul. Conditions: Glob; the numbers are of int64. -/
import Derived.Test.YtljemfajjeoecaaDoorAdd
namespace Go.Proofs.YtljemfajjeoecaaDoor
open Go Go.RowKit Go.Proofs Th
attribute [local go_sem] Above.cell Above.frozen

def subN (m1 e1 m2 e2 : Int) : (Int × Int) × Int := if right m2 e2 then addN m1 e1 (-m2) e2 else ((0, 0), 10)
def mulN (m1 e1 m2 e2 : Int) : (Int × Int) × Int := if right m1 e1 && right m2 e2 then normZ (m1 * m2) (e1 + e2) else ((0, 0), 10)

theorem I64.right {m e : Int} (h : Th.right m e = true) : I64 m := by have := right_size h; exact ⟨by omega, by omega⟩

theorem sub_wrong (m1 e1 m2 e2 : Int) (_hm1 : I64 m1) (hm2 : I64 m2) (h2 : right m2 e2 = false) (w : World) (hg : Glob w) : Calls Tryd.prog 34 #[.agg #[.int .i64 m1, .int .i64 e1], .agg #[.int .i64 m2, .int .i64 e2]] w fun r w' =>
    r = .returned (numRes ((0, 0), 10)) ∧ Below w.heap.size w w' := by
  go_enter Tryd.func34, Tryd.ntmps34
  go_wp2_with fail
  refine (num_Right m2 e2 hm2.lo hm2.hi _ (hg.below (al3 _ _ _ _))).mono ?_
  rw [h2]
  rintro r w1 ⟨rfl, hb1⟩
  obtain ⟨hc, hf⟩ := bcell hb1
  go_wp2_with fail
  refine (num_zero _).mono ?_
  rintro r w2 ⟨rfl, hb2'⟩
  have hb2 := up hb1 hb2'
  clear hc hf
  obtain ⟨hc, hf⟩ := bcell hb2
  go_wp2
  refine bodyPost_ret (v := numRes ((0, 0), 10)) ?_ rfl ⟨rfl, ?_⟩
  · simp [numRes, results, Tryd.results34, go_sem, hc]
  · exact st1 (st1 (up (al3 _ _ _ _) hb2) _ _ _ (by omega)) _ _ _ (by omega)

theorem sub_some (m1 e1 m2 e2 : Int) (hm1 : I64 m1) (hm2 : I64 m2) (h2 : right m2 e2 = true) (w : World) (hg : Glob w) : Calls Tryd.prog 34 #[.agg #[.int .i64 m1, .int .i64 e1], .agg #[.int .i64 m2, .int .i64 e2]] w fun r w' =>
    r = .returned (numRes (addN m1 e1 (-m2) e2)) ∧ Below w.heap.size w w' := by
  have hs := right_size h2
  have hm3 : I64 (-m2) := ⟨by omega, by omega⟩
  have hw0 : IntKind.i64.wrap (-m2) = -m2 := IntWalk.i64_in _ (by omega)
  go_enter Tryd.func34, Tryd.ntmps34
  go_wp2_with fail
  refine (num_Right m2 e2 hm2.lo hm2.hi _ (hg.below (al3 _ _ _ _))).mono ?_
  rw [h2]
  rintro r w1 ⟨rfl, hb1⟩
  obtain ⟨hc, hf⟩ := bcell hb1
  go_wp2_with fail
  refine (num_add m1 e1 (-m2) e2 hm1 hm3 _ (hg.below (up (al3 _ _ _ _) hb1))).mono ?_
  generalize hp : addN m1 e1 (-m2) e2 = p
  obtain ⟨⟨pm, pe⟩, pr⟩ := p
  have HP := Keep.mk hp
  clear hp
  simp only [numRes]
  rintro r w2 ⟨rfl, hb2'⟩
  have hb2 := up hb1 hb2'
  clear hc hf
  obtain ⟨hc, hf⟩ := bcell hb2
  go_wp2
  refine bodyPost_ret (v := numRes ((pm, pe), pr)) ?_ rfl ⟨num_res HP.out.symm, ?_⟩
  · simp [numRes, results, Tryd.results34, go_sem, hc]
  · exact st1 (st1 (up (al3 _ _ _ _) hb2) _ _ _ (by omega)) _ _ _ (by omega)

theorem num_sub (m1 e1 m2 e2 : Int) (hm1 : I64 m1) (hm2 : I64 m2) (w : World) (hg : Glob w) : Calls Tryd.prog 34 #[.agg #[.int .i64 m1, .int .i64 e1], .agg #[.int .i64 m2, .int .i64 e2]] w fun r w' =>
    r = .returned (numRes (subN m1 e1 m2 e2)) ∧ Below w.heap.size w w' := by
  unfold subN
  cases h2 : right m2 e2
  · exact sub_wrong m1 e1 m2 e2 hm1 hm2 h2 w hg
  · exact sub_some m1 e1 m2 e2 hm1 hm2 h2 w hg

theorem mul_wrong1 (m1 e1 m2 e2 : Int) (hm1 : I64 m1) (_hm2 : I64 m2) (h1 : right m1 e1 = false) (w : World) (hg : Glob w) : Calls Tryd.prog 33 #[.agg #[.int .i64 m1, .int .i64 e1], .agg #[.int .i64 m2, .int .i64 e2]] w fun r w' =>
    r = .returned (numRes ((0, 0), 10)) ∧ Below w.heap.size w w' := by
  go_enter Tryd.func33, Tryd.ntmps33
  go_wp2_with fail
  refine (num_Right m1 e1 hm1.lo hm1.hi _ (hg.below (al3 _ _ _ _))).mono ?_
  rw [h1]
  rintro r w1 ⟨rfl, hb1⟩
  obtain ⟨hc, hf⟩ := bcell hb1
  go_wp2_with fail
  refine (num_zero _).mono ?_
  rintro r w2 ⟨rfl, hb2'⟩
  have hb2 := up hb1 hb2'
  clear hc hf
  obtain ⟨hc, hf⟩ := bcell hb2
  go_wp2
  refine bodyPost_ret (v := numRes ((0, 0), 10)) ?_ rfl ⟨rfl, ?_⟩
  · simp [numRes, results, Tryd.results33, go_sem, hc]
  · exact st1 (st1 (up (al3 _ _ _ _) hb2) _ _ _ (by omega)) _ _ _ (by omega)

theorem mul_wrong2 (m1 e1 m2 e2 : Int) (hm1 : I64 m1) (hm2 : I64 m2) (h1 : right m1 e1 = true) (h2 : right m2 e2 = false) (w : World) (hg : Glob w) : Calls Tryd.prog 33 #[.agg #[.int .i64 m1, .int .i64 e1], .agg #[.int .i64 m2, .int .i64 e2]] w fun r w' =>
    r = .returned (numRes ((0, 0), 10)) ∧ Below w.heap.size w w' := by
  go_enter Tryd.func33, Tryd.ntmps33
  go_wp2_with fail
  refine (num_Right m1 e1 hm1.lo hm1.hi _ (hg.below (al3 _ _ _ _))).mono ?_
  rw [h1]
  rintro r w1 ⟨rfl, hb1⟩
  obtain ⟨hc, hf⟩ := bcell hb1
  go_wp2_with fail
  refine (num_Right m2 e2 hm2.lo hm2.hi _ (hg.below (up (al3 _ _ _ _) hb1))).mono ?_
  rw [h2]
  rintro r w2 ⟨rfl, hb2'⟩
  have hb2 := up hb1 hb2'
  clear hc hf
  obtain ⟨hc, hf⟩ := bcell hb2
  go_wp2_with fail
  refine (num_zero _).mono ?_
  rintro r w3 ⟨rfl, hb3'⟩
  have hb3 := up hb2 hb3'
  clear hc hf
  obtain ⟨hc, hf⟩ := bcell hb3
  go_wp2
  refine bodyPost_ret (v := numRes ((0, 0), 10)) ?_ rfl ⟨rfl, ?_⟩
  · simp [numRes, results, Tryd.results33, go_sem, hc]
  · exact st1 (st1 (up (al3 _ _ _ _) hb3) _ _ _ (by omega)) _ _ _ (by omega)

theorem mul_end {m1 m2 A B e : Int} (hA : (m1.natAbs : Int) = A) (hB : (m2.natAbs : Int) = B) :
    norm (decide (m1 < 0) != decide (m2 < 0)) (wide (mhi A B) (mlo A B)) e = normZ (m1 * m2) e := by
  have hw : wide (mhi A B) (mlo A B) = (A * B).toNat := by unfold wide mhi mlo; congr 1; omega
  have hn : (m1 * m2).natAbs = (A * B).toNat := by rw [Int.natAbs_mul, ← hA, ← hB, ← Int.natCast_mul]; rfl
  rw [hw]
  apply norm_eq
  · exact hn.symm
  · intro h0
    rw [← hn] at h0
    have h1 : m1 ≠ 0 := by intro h; subst h; simp at h0
    have h2 : m2 ≠ 0 := by intro h; subst h; simp at h0
    by_cases c1 : m1 < 0 <;> by_cases c2 : m2 < 0
    · have := Int.mul_pos_of_neg_of_neg c1 c2; simp [c1, c2]; omega
    · have := Int.mul_neg_of_neg_of_pos c1 (show 0 < m2 by omega); simp [c1, c2]; omega
    · have := Int.mul_neg_of_pos_of_neg (show 0 < m1 by omega) c2; simp [c1, c2]; omega
    · have := Int.mul_pos (show 0 < m1 by omega) (show 0 < m2 by omega); simp [c1, c2]; omega

set_option maxRecDepth 100000 in
theorem mul_some (m1 e1 m2 e2 : Int) (hm1 : I64 m1) (hm2 : I64 m2) (h1 : right m1 e1 = true) (h2 : right m2 e2 = true) (A B : Int) (hA : (m1.natAbs : Int) = A) (hB : (m2.natAbs : Int) = B) (w : World) (hg : Glob w) : Calls Tryd.prog 33 #[.agg #[.int .i64 m1, .int .i64 e1], .agg #[.int .i64 m2, .int .i64 e2]] w fun r w' =>
    r = .returned (numRes (normZ (m1 * m2) (e1 + e2))) ∧ Below w.heap.size w w' := by
  have hx1 := right_exp h1
  have hx2 := right_exp h2
  have hsA : Keep (∀ w, Calls Tryd.prog 65 #[.agg #[.int .i64 m1, .int .i64 e1]] w fun r w' => r = .returned (.int .u64 A) ∧ Below w.heap.size w w') := ⟨fun w => by rw [← hA]; exact num_size m1 e1 hm1.lo hm1.hi w⟩
  have hsB : Keep (∀ w, Calls Tryd.prog 65 #[.agg #[.int .i64 m2, .int .i64 e2]] w fun r w' => r = .returned (.int .u64 B) ∧ Below w.heap.size w w') := ⟨fun w => by rw [← hB]; exact num_size m2 e2 hm2.lo hm2.hi w⟩
  have hA0 : 0 ≤ A := by omega
  have hA1 : A < 1000000000000000000 := by have := right_size h1; omega
  have hB0 : 0 ≤ B := by omega
  have hB1 : B < 1000000000000000000 := by have := right_size h2; omega
  have HE := Keep.mk (mul_end (e := e1 + e2) hA hB)
  have hm := mhi_bd hA0 (show A ≤ 1000000000000000000 by omega) hB0 (show B ≤ 1000000000000000000 by omega)
  obtain ⟨hm0, hmm⟩ := hm
  have HL := Keep.mk (mlo_bd A B)
  clear hA hB
  go_enter Tryd.func33, Tryd.ntmps33
  go_wp2_with fail
  refine (num_Right m1 e1 hm1.lo hm1.hi _ (hg.below (al3 _ _ _ _))).mono ?_
  rw [h1]
  rintro r w1 ⟨rfl, hb1⟩
  obtain ⟨hc, hf⟩ := bcell hb1
  go_wp2_with fail
  refine (num_Right m2 e2 hm2.lo hm2.hi _ (hg.below (up (al3 _ _ _ _) hb1))).mono ?_
  rw [h2]
  rintro r w2 ⟨rfl, hb2'⟩
  have hb2 := up hb1 hb2'
  clear hc hf
  obtain ⟨hc, hf⟩ := bcell hb2
  go_wp2_with fail
  refine wp_region_from hb2 (by kernel_rfl) (by kernel_rfl) ?_
  repeat (go_big_quiet_step (first | (go_at_call 65; first | (with_reducible exact calls_above (hsA.out _)) | (with_reducible exact calls_above (hsB.out _))) | (go_at_call 71; exact calls_above (mul64 A B hA0 (by omega) (by omega) (by omega) _))))
  refine wpQuiet_nil ?_
  rintro _ ⟨x3, rfl⟩
  have hb3 := x3.property
  clear hc hf
  obtain ⟨hc, hf⟩ := bcell hb3
  go_wp2_with fail
  refine (num_made (decide (m1 < 0) != decide (m2 < 0)) (mhi A B) (mlo A B) (e1 + e2) hm0 (by omega) HL.out.1 HL.out.2 (by omega) (by omega) _ (hg.below (up (al3 _ _ _ _) hb3))).mono ?_
  rw [HE.out]
  generalize hp : normZ (m1 * m2) (e1 + e2) = p
  obtain ⟨⟨pm, pe⟩, pr⟩ := p
  have HP := Keep.mk hp
  clear hp
  simp only [numRes]
  rintro r w4 ⟨rfl, hb4'⟩
  have hb4 := up hb3 hb4'
  clear hc hf
  obtain ⟨hc, hf⟩ := bcell hb4
  go_wp2
  refine bodyPost_ret (v := numRes ((pm, pe), pr)) ?_ rfl ⟨num_res HP.out.symm, ?_⟩
  · simp [numRes, results, Tryd.results33, go_sem, hc]
  · exact st1 (st1 (up (al3 _ _ _ _) hb4) _ _ _ (by omega)) _ _ _ (by omega)

theorem num_mul (m1 e1 m2 e2 : Int) (hm1 : I64 m1) (hm2 : I64 m2) (w : World) (hg : Glob w) : Calls Tryd.prog 33 #[.agg #[.int .i64 m1, .int .i64 e1], .agg #[.int .i64 m2, .int .i64 e2]] w fun r w' =>
    r = .returned (numRes (mulN m1 e1 m2 e2)) ∧ Below w.heap.size w w' := by
  unfold mulN
  cases h1 : right m1 e1
  · exact mul_wrong1 m1 e1 m2 e2 hm1 hm2 h1 w hg
  · cases h2 : right m2 e2
    · exact mul_wrong2 m1 e1 m2 e2 hm1 hm2 h1 h2 w hg
    · exact mul_some m1 e1 m2 e2 hm1 hm2 h1 h2 _ _ rfl rfl w hg
end Go.Proofs.YtljemfajjeoecaaDoor
