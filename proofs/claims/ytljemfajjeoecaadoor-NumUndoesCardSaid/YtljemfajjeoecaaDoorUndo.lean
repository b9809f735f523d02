/- thimblelaw01.NumUndoes. Conditions: Glob; the numbers are of int64. -/
import Derived.Test.YtljemfajjeoecaaDoorWorks
import Derived.Test.YtljemfajjeoecaaDoorUndoMath
namespace Go.Proofs.YtljemfajjeoecaaDoor
open Go Go.RowKit Go.Proofs Th
attribute [local go_sem] Above.cell Above.frozen

theorem normZ_right_of_add {m1 e1 m2 e2 m f : Int} (h : addN m1 e1 m2 e2 = ((m, f), 0)) : right m f = true := by
  obtain ⟨r1, r2⟩ := addN_rights h
  unfold addN at h
  rw [r1, r2] at h
  exact (normZ_ok h).1
theorem normZ_right_of_mul {m1 e1 m2 e2 m f : Int} (h : mulN m1 e1 m2 e2 = ((m, f), 0)) : right m f = true := by
  obtain ⟨r1, r2⟩ := mulN_rights h
  unfold mulN at h
  rw [r1, r2] at h
  exact (normZ_ok h).1

set_option maxRecDepth 100000 in
theorem undo_00 (m1 e1 m2 e2 : Int) (hm1 : I64 m1) (hm2 : I64 m2) (sm se sr pm pe pr : Int) (hA : addN m1 e1 m2 e2 = ((sm, se), sr)) (hM : mulN m1 e1 m2 e2 = ((pm, pe), pr)) (hs : (sr == 0) = false) (hp : (pr == 0) = false) (w : World) (hg : Glob w) :
    Calls Tryd.prog 9 #[.agg #[.int .i64 m1, .int .i64 e1], .agg #[.int .i64 m2, .int .i64 e2]] w fun r w' => r = .returned (.bool true) ∧ Below w.heap.size w w' := by
  have HA := Keep.mk hA
  have HA2 := Keep.mk ((addN_comm m2 e2 m1 e1).trans hA)
  have HM := Keep.mk hM
  have HM2 := Keep.mk ((mulN_comm m2 e2 m1 e1).trans hM)
  clear hA hM
  go_enter Tryd.func9, Tryd.ntmps9
  go_wp2_with fail
  refine calls_world (fun W => Glob W ∧ Below w.heap.size w W ∧ Cell2 W (w.heap.size) (.int .i64 m1) (.int .i64 e1) ∧ Cell2 W (w.heap.size + 1) (.int .i64 m2) (.int .i64 e2)) ⟨hg.below (al2 w _ _), al2 w _ _, (Cell2.newAt (by simp)).alloc _, (Cell2.newAt (by simp))⟩ ?_
  clear hg
  rintro W ⟨hg, B, c1, c2⟩
  have dc1 := c1.c0
  have ec1 := c1.c1
  have lc1 := c1.lt
  have dc2 := c2.c0
  have ec2 := c2.c1
  have lc2 := c2.lt
  refine (num_works _ hg).mono ?_
  rintro r W1 ⟨rfl, hb1⟩
  replace hg := hg.below hb1
  replace B := up B hb1
  clear dc1 ec1 lc1
  replace c1 := c1.below hb1
  clear dc2 ec2 lc2
  replace c2 := c2.below hb1
  have dc1 := c1.c0
  have ec1 := c1.c1
  have lc1 := c1.lt
  have dc2 := c2.c0
  have ec2 := c2.c1
  have lc2 := c2.lt
  clear hb1
  go_wp2_with fail
  refine (num_add m1 e1 m2 e2 hm1 hm2 _ hg).mono ?_
  rw [HA.out]
  simp only [numRes]
  rintro r W2 ⟨rfl, hb2⟩
  replace hg := hg.below hb2
  replace B := up B hb2
  clear dc1 ec1 lc1
  replace c1 := c1.below hb2
  clear dc2 ec2 lc2
  replace c2 := c2.below hb2
  have dc1 := c1.c0
  have ec1 := c1.c1
  have lc1 := c1.lt
  have dc2 := c2.c0
  have ec2 := c2.c1
  have lc2 := c2.lt
  clear hb2
  go_wp2_with fail
  clear dc1 ec1 lc1
  clear dc2 ec2 lc2
  refine calls_world (fun W => Glob W ∧ Below w.heap.size w W ∧ Cell2 W (w.heap.size) (.int .i64 m1) (.int .i64 e1) ∧ Cell2 W (w.heap.size + 1) (.int .i64 m2) (.int .i64 e2) ∧ Cell2 W W2.heap.size (.int .i64 sm) (.int .i64 se)) ⟨hg.alloc _, up B (al1 _ _), c1.alloc _, c2.alloc _, Cell2.new _ _ _ _⟩ ?_
  clear hg B c1 c2
  rintro W ⟨hg, B, c1, c2, c3⟩
  have dc1 := c1.c0
  have ec1 := c1.c1
  have lc1 := c1.lt
  have dc2 := c2.c0
  have ec2 := c2.c1
  have lc2 := c2.lt
  have dc3 := c3.c0
  have ec3 := c3.c1
  have lc3 := c3.lt
  refine (num_add m2 e2 m1 e1 hm2 hm1 _ hg).mono ?_
  rw [HA2.out]
  simp only [numRes]
  rintro r W3 ⟨rfl, hb3⟩
  replace hg := hg.below hb3
  replace B := up B hb3
  clear dc1 ec1 lc1
  replace c1 := c1.below hb3
  clear dc2 ec2 lc2
  replace c2 := c2.below hb3
  clear dc3 ec3 lc3
  replace c3 := c3.below hb3
  have dc1 := c1.c0
  have ec1 := c1.c1
  have lc1 := c1.lt
  have dc2 := c2.c0
  have ec2 := c2.c1
  have lc2 := c2.lt
  have dc3 := c3.c0
  have ec3 := c3.c1
  have lc3 := c3.lt
  clear hb3
  go_wp2_with fail
  clear dc1 ec1 lc1
  clear dc2 ec2 lc2
  clear dc3 ec3 lc3
  refine calls_world (fun W => Glob W ∧ Below w.heap.size w W ∧ Cell2 W (w.heap.size) (.int .i64 m1) (.int .i64 e1) ∧ Cell2 W (w.heap.size + 1) (.int .i64 m2) (.int .i64 e2) ∧ Cell2 W W2.heap.size (.int .i64 sm) (.int .i64 se) ∧ Cell2 W W3.heap.size (.int .i64 sm) (.int .i64 se)) ⟨hg.alloc _, up B (al1 _ _), c1.alloc _, c2.alloc _, c3.alloc _, Cell2.new _ _ _ _⟩ ?_
  clear hg B c1 c2 c3
  rintro W ⟨hg, B, c1, c2, c3, c4⟩
  have dc1 := c1.c0
  have ec1 := c1.c1
  have lc1 := c1.lt
  have dc2 := c2.c0
  have ec2 := c2.c1
  have lc2 := c2.lt
  have dc3 := c3.c0
  have ec3 := c3.c1
  have lc3 := c3.lt
  have dc4 := c4.c0
  have ec4 := c4.c1
  have lc4 := c4.lt
  refine (num_mul m1 e1 m2 e2 hm1 hm2 _ hg).mono ?_
  rw [HM.out]
  simp only [numRes]
  rintro r W4 ⟨rfl, hb4⟩
  replace hg := hg.below hb4
  replace B := up B hb4
  clear dc1 ec1 lc1
  replace c1 := c1.below hb4
  clear dc2 ec2 lc2
  replace c2 := c2.below hb4
  clear dc3 ec3 lc3
  replace c3 := c3.below hb4
  clear dc4 ec4 lc4
  replace c4 := c4.below hb4
  have dc1 := c1.c0
  have ec1 := c1.c1
  have lc1 := c1.lt
  have dc2 := c2.c0
  have ec2 := c2.c1
  have lc2 := c2.lt
  have dc3 := c3.c0
  have ec3 := c3.c1
  have lc3 := c3.lt
  have dc4 := c4.c0
  have ec4 := c4.c1
  have lc4 := c4.lt
  clear hb4
  go_wp2_with fail
  clear dc1 ec1 lc1
  clear dc2 ec2 lc2
  clear dc3 ec3 lc3
  clear dc4 ec4 lc4
  refine calls_world (fun W => Glob W ∧ Below w.heap.size w W ∧ Cell2 W (w.heap.size) (.int .i64 m1) (.int .i64 e1) ∧ Cell2 W (w.heap.size + 1) (.int .i64 m2) (.int .i64 e2) ∧ Cell2 W W2.heap.size (.int .i64 sm) (.int .i64 se) ∧ Cell2 W W3.heap.size (.int .i64 sm) (.int .i64 se) ∧ Cell2 W W4.heap.size (.int .i64 pm) (.int .i64 pe)) ⟨hg.alloc _, up B (al1 _ _), c1.alloc _, c2.alloc _, c3.alloc _, c4.alloc _, Cell2.new _ _ _ _⟩ ?_
  clear hg B c1 c2 c3 c4
  rintro W ⟨hg, B, c1, c2, c3, c4, c5⟩
  have dc1 := c1.c0
  have ec1 := c1.c1
  have lc1 := c1.lt
  have dc2 := c2.c0
  have ec2 := c2.c1
  have lc2 := c2.lt
  have dc3 := c3.c0
  have ec3 := c3.c1
  have lc3 := c3.lt
  have dc4 := c4.c0
  have ec4 := c4.c1
  have lc4 := c4.lt
  have dc5 := c5.c0
  have ec5 := c5.c1
  have lc5 := c5.lt
  refine (num_mul m2 e2 m1 e1 hm2 hm1 _ hg).mono ?_
  rw [HM2.out]
  simp only [numRes]
  rintro r W5 ⟨rfl, hb5⟩
  replace hg := hg.below hb5
  replace B := up B hb5
  clear dc1 ec1 lc1
  replace c1 := c1.below hb5
  clear dc2 ec2 lc2
  replace c2 := c2.below hb5
  clear dc3 ec3 lc3
  replace c3 := c3.below hb5
  clear dc4 ec4 lc4
  replace c4 := c4.below hb5
  clear dc5 ec5 lc5
  replace c5 := c5.below hb5
  have dc1 := c1.c0
  have ec1 := c1.c1
  have lc1 := c1.lt
  have dc2 := c2.c0
  have ec2 := c2.c1
  have lc2 := c2.lt
  have dc3 := c3.c0
  have ec3 := c3.c1
  have lc3 := c3.lt
  have dc4 := c4.c0
  have ec4 := c4.c1
  have lc4 := c4.lt
  have dc5 := c5.c0
  have ec5 := c5.c1
  have lc5 := c5.lt
  clear hb5
  go_wp2
  go_ret
  exact ⟨rfl, up B (al1 _ _)⟩

set_option maxRecDepth 100000 in
theorem undo_01 (m1 e1 m2 e2 : Int) (hm1 : I64 m1) (hm2 : I64 m2) (sm se sr pm pe pr : Int) (hA : addN m1 e1 m2 e2 = ((sm, se), sr)) (hM : mulN m1 e1 m2 e2 = ((pm, pe), pr)) (hs : (sr == 0) = false) (hp : pr = 0) (h0 : m2 = 0) (w : World) (hg : Glob w) :
    Calls Tryd.prog 9 #[.agg #[.int .i64 m1, .int .i64 e1], .agg #[.int .i64 m2, .int .i64 e2]] w fun r w' => r = .returned (.bool true) ∧ Below w.heap.size w w' := by
  subst hp
  subst h0
  have HA := Keep.mk hA
  have HA2 := Keep.mk ((addN_comm 0 e2 m1 e1).trans hA)
  have HM := Keep.mk hM
  have HM2 := Keep.mk ((mulN_comm 0 e2 m1 e1).trans hM)
  clear hA hM
  go_enter Tryd.func9, Tryd.ntmps9
  go_wp2_with fail
  refine calls_world (fun W => Glob W ∧ Below w.heap.size w W ∧ Cell2 W (w.heap.size) (.int .i64 m1) (.int .i64 e1) ∧ Cell2 W (w.heap.size + 1) (.int .i64 0) (.int .i64 e2)) ⟨hg.below (al2 w _ _), al2 w _ _, (Cell2.newAt (by simp)).alloc _, (Cell2.newAt (by simp))⟩ ?_
  clear hg
  rintro W ⟨hg, B, c1, c2⟩
  have dc1 := c1.c0
  have ec1 := c1.c1
  have lc1 := c1.lt
  have dc2 := c2.c0
  have ec2 := c2.c1
  have lc2 := c2.lt
  refine (num_works _ hg).mono ?_
  rintro r W1 ⟨rfl, hb1⟩
  replace hg := hg.below hb1
  replace B := up B hb1
  clear dc1 ec1 lc1
  replace c1 := c1.below hb1
  clear dc2 ec2 lc2
  replace c2 := c2.below hb1
  have dc1 := c1.c0
  have ec1 := c1.c1
  have lc1 := c1.lt
  have dc2 := c2.c0
  have ec2 := c2.c1
  have lc2 := c2.lt
  clear hb1
  go_wp2_with fail
  refine (num_add m1 e1 0 e2 hm1 hm2 _ hg).mono ?_
  rw [HA.out]
  simp only [numRes]
  rintro r W2 ⟨rfl, hb2⟩
  replace hg := hg.below hb2
  replace B := up B hb2
  clear dc1 ec1 lc1
  replace c1 := c1.below hb2
  clear dc2 ec2 lc2
  replace c2 := c2.below hb2
  have dc1 := c1.c0
  have ec1 := c1.c1
  have lc1 := c1.lt
  have dc2 := c2.c0
  have ec2 := c2.c1
  have lc2 := c2.lt
  clear hb2
  go_wp2_with fail
  clear dc1 ec1 lc1
  clear dc2 ec2 lc2
  refine calls_world (fun W => Glob W ∧ Below w.heap.size w W ∧ Cell2 W (w.heap.size) (.int .i64 m1) (.int .i64 e1) ∧ Cell2 W (w.heap.size + 1) (.int .i64 0) (.int .i64 e2) ∧ Cell2 W W2.heap.size (.int .i64 sm) (.int .i64 se)) ⟨hg.alloc _, up B (al1 _ _), c1.alloc _, c2.alloc _, Cell2.new _ _ _ _⟩ ?_
  clear hg B c1 c2
  rintro W ⟨hg, B, c1, c2, c3⟩
  have dc1 := c1.c0
  have ec1 := c1.c1
  have lc1 := c1.lt
  have dc2 := c2.c0
  have ec2 := c2.c1
  have lc2 := c2.lt
  have dc3 := c3.c0
  have ec3 := c3.c1
  have lc3 := c3.lt
  refine (num_add 0 e2 m1 e1 hm2 hm1 _ hg).mono ?_
  rw [HA2.out]
  simp only [numRes]
  rintro r W3 ⟨rfl, hb3⟩
  replace hg := hg.below hb3
  replace B := up B hb3
  clear dc1 ec1 lc1
  replace c1 := c1.below hb3
  clear dc2 ec2 lc2
  replace c2 := c2.below hb3
  clear dc3 ec3 lc3
  replace c3 := c3.below hb3
  have dc1 := c1.c0
  have ec1 := c1.c1
  have lc1 := c1.lt
  have dc2 := c2.c0
  have ec2 := c2.c1
  have lc2 := c2.lt
  have dc3 := c3.c0
  have ec3 := c3.c1
  have lc3 := c3.lt
  clear hb3
  go_wp2_with fail
  clear dc1 ec1 lc1
  clear dc2 ec2 lc2
  clear dc3 ec3 lc3
  refine calls_world (fun W => Glob W ∧ Below w.heap.size w W ∧ Cell2 W (w.heap.size) (.int .i64 m1) (.int .i64 e1) ∧ Cell2 W (w.heap.size + 1) (.int .i64 0) (.int .i64 e2) ∧ Cell2 W W2.heap.size (.int .i64 sm) (.int .i64 se) ∧ Cell2 W W3.heap.size (.int .i64 sm) (.int .i64 se)) ⟨hg.alloc _, up B (al1 _ _), c1.alloc _, c2.alloc _, c3.alloc _, Cell2.new _ _ _ _⟩ ?_
  clear hg B c1 c2 c3
  rintro W ⟨hg, B, c1, c2, c3, c4⟩
  have dc1 := c1.c0
  have ec1 := c1.c1
  have lc1 := c1.lt
  have dc2 := c2.c0
  have ec2 := c2.c1
  have lc2 := c2.lt
  have dc3 := c3.c0
  have ec3 := c3.c1
  have lc3 := c3.lt
  have dc4 := c4.c0
  have ec4 := c4.c1
  have lc4 := c4.lt
  refine (num_mul m1 e1 0 e2 hm1 hm2 _ hg).mono ?_
  rw [HM.out]
  simp only [numRes]
  rintro r W4 ⟨rfl, hb4⟩
  replace hg := hg.below hb4
  replace B := up B hb4
  clear dc1 ec1 lc1
  replace c1 := c1.below hb4
  clear dc2 ec2 lc2
  replace c2 := c2.below hb4
  clear dc3 ec3 lc3
  replace c3 := c3.below hb4
  clear dc4 ec4 lc4
  replace c4 := c4.below hb4
  have dc1 := c1.c0
  have ec1 := c1.c1
  have lc1 := c1.lt
  have dc2 := c2.c0
  have ec2 := c2.c1
  have lc2 := c2.lt
  have dc3 := c3.c0
  have ec3 := c3.c1
  have lc3 := c3.lt
  have dc4 := c4.c0
  have ec4 := c4.c1
  have lc4 := c4.lt
  clear hb4
  go_wp2_with fail
  clear dc1 ec1 lc1
  clear dc2 ec2 lc2
  clear dc3 ec3 lc3
  clear dc4 ec4 lc4
  refine calls_world (fun W => Glob W ∧ Below w.heap.size w W ∧ Cell2 W (w.heap.size) (.int .i64 m1) (.int .i64 e1) ∧ Cell2 W (w.heap.size + 1) (.int .i64 0) (.int .i64 e2) ∧ Cell2 W W2.heap.size (.int .i64 sm) (.int .i64 se) ∧ Cell2 W W3.heap.size (.int .i64 sm) (.int .i64 se) ∧ Cell2 W W4.heap.size (.int .i64 pm) (.int .i64 pe)) ⟨hg.alloc _, up B (al1 _ _), c1.alloc _, c2.alloc _, c3.alloc _, c4.alloc _, Cell2.new _ _ _ _⟩ ?_
  clear hg B c1 c2 c3 c4
  rintro W ⟨hg, B, c1, c2, c3, c4, c5⟩
  have dc1 := c1.c0
  have ec1 := c1.c1
  have lc1 := c1.lt
  have dc2 := c2.c0
  have ec2 := c2.c1
  have lc2 := c2.lt
  have dc3 := c3.c0
  have ec3 := c3.c1
  have lc3 := c3.lt
  have dc4 := c4.c0
  have ec4 := c4.c1
  have lc4 := c4.lt
  have dc5 := c5.c0
  have ec5 := c5.c1
  have lc5 := c5.lt
  refine (num_mul 0 e2 m1 e1 hm2 hm1 _ hg).mono ?_
  rw [HM2.out]
  simp only [numRes]
  rintro r W5 ⟨rfl, hb5⟩
  replace hg := hg.below hb5
  replace B := up B hb5
  clear dc1 ec1 lc1
  replace c1 := c1.below hb5
  clear dc2 ec2 lc2
  replace c2 := c2.below hb5
  clear dc3 ec3 lc3
  replace c3 := c3.below hb5
  clear dc4 ec4 lc4
  replace c4 := c4.below hb5
  clear dc5 ec5 lc5
  replace c5 := c5.below hb5
  have dc1 := c1.c0
  have ec1 := c1.c1
  have lc1 := c1.lt
  have dc2 := c2.c0
  have ec2 := c2.c1
  have lc2 := c2.lt
  have dc3 := c3.c0
  have ec3 := c3.c1
  have lc3 := c3.lt
  have dc4 := c4.c0
  have ec4 := c4.c1
  have lc4 := c4.lt
  have dc5 := c5.c0
  have ec5 := c5.c1
  have lc5 := c5.lt
  clear hb5
  go_wp2
  go_ret
  exact ⟨rfl, up B (al1 _ _)⟩

set_option maxRecDepth 100000 in
theorem undo_02 (m1 e1 m2 e2 : Int) (hm1 : I64 m1) (hm2 : I64 m2) (sm se sr pm pe pr : Int) (hA : addN m1 e1 m2 e2 = ((sm, se), sr)) (hM : mulN m1 e1 m2 e2 = ((pm, pe), pr)) (hs : (sr == 0) = false) (hp : pr = 0) (h0 : (m2 == 0) = false) (w : World) (hg : Glob w) :
    Calls Tryd.prog 9 #[.agg #[.int .i64 m1, .int .i64 e1], .agg #[.int .i64 m2, .int .i64 e2]] w fun r w' => r = .returned (.bool true) ∧ Below w.heap.size w w' := by
  subst hp
  have HD := Keep.mk (div_undoes hM (by simpa using h0))
  have hpm := I64.right (normZ_right_of_mul hM)
  have HA := Keep.mk hA
  have HA2 := Keep.mk ((addN_comm m2 e2 m1 e1).trans hA)
  have HM := Keep.mk hM
  have HM2 := Keep.mk ((mulN_comm m2 e2 m1 e1).trans hM)
  clear hA hM
  go_enter Tryd.func9, Tryd.ntmps9
  go_wp2_with fail
  refine calls_world (fun W => Glob W ∧ Below w.heap.size w W ∧ Cell2 W (w.heap.size) (.int .i64 m1) (.int .i64 e1) ∧ Cell2 W (w.heap.size + 1) (.int .i64 m2) (.int .i64 e2)) ⟨hg.below (al2 w _ _), al2 w _ _, (Cell2.newAt (by simp)).alloc _, (Cell2.newAt (by simp))⟩ ?_
  clear hg
  rintro W ⟨hg, B, c1, c2⟩
  have dc1 := c1.c0
  have ec1 := c1.c1
  have lc1 := c1.lt
  have dc2 := c2.c0
  have ec2 := c2.c1
  have lc2 := c2.lt
  refine (num_works _ hg).mono ?_
  rintro r W1 ⟨rfl, hb1⟩
  replace hg := hg.below hb1
  replace B := up B hb1
  clear dc1 ec1 lc1
  replace c1 := c1.below hb1
  clear dc2 ec2 lc2
  replace c2 := c2.below hb1
  have dc1 := c1.c0
  have ec1 := c1.c1
  have lc1 := c1.lt
  have dc2 := c2.c0
  have ec2 := c2.c1
  have lc2 := c2.lt
  clear hb1
  go_wp2_with fail
  refine (num_add m1 e1 m2 e2 hm1 hm2 _ hg).mono ?_
  rw [HA.out]
  simp only [numRes]
  rintro r W2 ⟨rfl, hb2⟩
  replace hg := hg.below hb2
  replace B := up B hb2
  clear dc1 ec1 lc1
  replace c1 := c1.below hb2
  clear dc2 ec2 lc2
  replace c2 := c2.below hb2
  have dc1 := c1.c0
  have ec1 := c1.c1
  have lc1 := c1.lt
  have dc2 := c2.c0
  have ec2 := c2.c1
  have lc2 := c2.lt
  clear hb2
  go_wp2_with fail
  clear dc1 ec1 lc1
  clear dc2 ec2 lc2
  refine calls_world (fun W => Glob W ∧ Below w.heap.size w W ∧ Cell2 W (w.heap.size) (.int .i64 m1) (.int .i64 e1) ∧ Cell2 W (w.heap.size + 1) (.int .i64 m2) (.int .i64 e2) ∧ Cell2 W W2.heap.size (.int .i64 sm) (.int .i64 se)) ⟨hg.alloc _, up B (al1 _ _), c1.alloc _, c2.alloc _, Cell2.new _ _ _ _⟩ ?_
  clear hg B c1 c2
  rintro W ⟨hg, B, c1, c2, c3⟩
  have dc1 := c1.c0
  have ec1 := c1.c1
  have lc1 := c1.lt
  have dc2 := c2.c0
  have ec2 := c2.c1
  have lc2 := c2.lt
  have dc3 := c3.c0
  have ec3 := c3.c1
  have lc3 := c3.lt
  refine (num_add m2 e2 m1 e1 hm2 hm1 _ hg).mono ?_
  rw [HA2.out]
  simp only [numRes]
  rintro r W3 ⟨rfl, hb3⟩
  replace hg := hg.below hb3
  replace B := up B hb3
  clear dc1 ec1 lc1
  replace c1 := c1.below hb3
  clear dc2 ec2 lc2
  replace c2 := c2.below hb3
  clear dc3 ec3 lc3
  replace c3 := c3.below hb3
  have dc1 := c1.c0
  have ec1 := c1.c1
  have lc1 := c1.lt
  have dc2 := c2.c0
  have ec2 := c2.c1
  have lc2 := c2.lt
  have dc3 := c3.c0
  have ec3 := c3.c1
  have lc3 := c3.lt
  clear hb3
  go_wp2_with fail
  clear dc1 ec1 lc1
  clear dc2 ec2 lc2
  clear dc3 ec3 lc3
  refine calls_world (fun W => Glob W ∧ Below w.heap.size w W ∧ Cell2 W (w.heap.size) (.int .i64 m1) (.int .i64 e1) ∧ Cell2 W (w.heap.size + 1) (.int .i64 m2) (.int .i64 e2) ∧ Cell2 W W2.heap.size (.int .i64 sm) (.int .i64 se) ∧ Cell2 W W3.heap.size (.int .i64 sm) (.int .i64 se)) ⟨hg.alloc _, up B (al1 _ _), c1.alloc _, c2.alloc _, c3.alloc _, Cell2.new _ _ _ _⟩ ?_
  clear hg B c1 c2 c3
  rintro W ⟨hg, B, c1, c2, c3, c4⟩
  have dc1 := c1.c0
  have ec1 := c1.c1
  have lc1 := c1.lt
  have dc2 := c2.c0
  have ec2 := c2.c1
  have lc2 := c2.lt
  have dc3 := c3.c0
  have ec3 := c3.c1
  have lc3 := c3.lt
  have dc4 := c4.c0
  have ec4 := c4.c1
  have lc4 := c4.lt
  refine (num_mul m1 e1 m2 e2 hm1 hm2 _ hg).mono ?_
  rw [HM.out]
  simp only [numRes]
  rintro r W4 ⟨rfl, hb4⟩
  replace hg := hg.below hb4
  replace B := up B hb4
  clear dc1 ec1 lc1
  replace c1 := c1.below hb4
  clear dc2 ec2 lc2
  replace c2 := c2.below hb4
  clear dc3 ec3 lc3
  replace c3 := c3.below hb4
  clear dc4 ec4 lc4
  replace c4 := c4.below hb4
  have dc1 := c1.c0
  have ec1 := c1.c1
  have lc1 := c1.lt
  have dc2 := c2.c0
  have ec2 := c2.c1
  have lc2 := c2.lt
  have dc3 := c3.c0
  have ec3 := c3.c1
  have lc3 := c3.lt
  have dc4 := c4.c0
  have ec4 := c4.c1
  have lc4 := c4.lt
  clear hb4
  go_wp2_with fail
  clear dc1 ec1 lc1
  clear dc2 ec2 lc2
  clear dc3 ec3 lc3
  clear dc4 ec4 lc4
  refine calls_world (fun W => Glob W ∧ Below w.heap.size w W ∧ Cell2 W (w.heap.size) (.int .i64 m1) (.int .i64 e1) ∧ Cell2 W (w.heap.size + 1) (.int .i64 m2) (.int .i64 e2) ∧ Cell2 W W2.heap.size (.int .i64 sm) (.int .i64 se) ∧ Cell2 W W3.heap.size (.int .i64 sm) (.int .i64 se) ∧ Cell2 W W4.heap.size (.int .i64 pm) (.int .i64 pe)) ⟨hg.alloc _, up B (al1 _ _), c1.alloc _, c2.alloc _, c3.alloc _, c4.alloc _, Cell2.new _ _ _ _⟩ ?_
  clear hg B c1 c2 c3 c4
  rintro W ⟨hg, B, c1, c2, c3, c4, c5⟩
  have dc1 := c1.c0
  have ec1 := c1.c1
  have lc1 := c1.lt
  have dc2 := c2.c0
  have ec2 := c2.c1
  have lc2 := c2.lt
  have dc3 := c3.c0
  have ec3 := c3.c1
  have lc3 := c3.lt
  have dc4 := c4.c0
  have ec4 := c4.c1
  have lc4 := c4.lt
  have dc5 := c5.c0
  have ec5 := c5.c1
  have lc5 := c5.lt
  refine (num_mul m2 e2 m1 e1 hm2 hm1 _ hg).mono ?_
  rw [HM2.out]
  simp only [numRes]
  rintro r W5 ⟨rfl, hb5⟩
  replace hg := hg.below hb5
  replace B := up B hb5
  clear dc1 ec1 lc1
  replace c1 := c1.below hb5
  clear dc2 ec2 lc2
  replace c2 := c2.below hb5
  clear dc3 ec3 lc3
  replace c3 := c3.below hb5
  clear dc4 ec4 lc4
  replace c4 := c4.below hb5
  clear dc5 ec5 lc5
  replace c5 := c5.below hb5
  have dc1 := c1.c0
  have ec1 := c1.c1
  have lc1 := c1.lt
  have dc2 := c2.c0
  have ec2 := c2.c1
  have lc2 := c2.lt
  have dc3 := c3.c0
  have ec3 := c3.c1
  have lc3 := c3.lt
  have dc4 := c4.c0
  have ec4 := c4.c1
  have lc4 := c4.lt
  have dc5 := c5.c0
  have ec5 := c5.c1
  have lc5 := c5.lt
  clear hb5
  go_wp2_with fail
  clear dc1 ec1 lc1
  clear dc2 ec2 lc2
  clear dc3 ec3 lc3
  clear dc4 ec4 lc4
  clear dc5 ec5 lc5
  refine calls_world (fun W => Glob W ∧ Below w.heap.size w W ∧ Cell2 W (w.heap.size) (.int .i64 m1) (.int .i64 e1) ∧ Cell2 W (w.heap.size + 1) (.int .i64 m2) (.int .i64 e2) ∧ Cell2 W W2.heap.size (.int .i64 sm) (.int .i64 se) ∧ Cell2 W W3.heap.size (.int .i64 sm) (.int .i64 se) ∧ Cell2 W W4.heap.size (.int .i64 pm) (.int .i64 pe) ∧ Cell2 W W5.heap.size (.int .i64 pm) (.int .i64 pe)) ⟨hg.alloc _, up B (al1 _ _), c1.alloc _, c2.alloc _, c3.alloc _, c4.alloc _, c5.alloc _, Cell2.new _ _ _ _⟩ ?_
  clear hg B c1 c2 c3 c4 c5
  rintro W ⟨hg, B, c1, c2, c3, c4, c5, c7⟩
  have dc1 := c1.c0
  have ec1 := c1.c1
  have lc1 := c1.lt
  have dc2 := c2.c0
  have ec2 := c2.c1
  have lc2 := c2.lt
  have dc3 := c3.c0
  have ec3 := c3.c1
  have lc3 := c3.lt
  have dc4 := c4.c0
  have ec4 := c4.c1
  have lc4 := c4.lt
  have dc5 := c5.c0
  have ec5 := c5.c1
  have lc5 := c5.lt
  have dc7 := c7.c0
  have ec7 := c7.c1
  have lc7 := c7.lt
  refine (num_Div pm pe m2 e2 hpm hm2 _ hg).mono ?_
  rw [HD.out]
  simp only [numRes]
  rintro r W6 ⟨rfl, hb6⟩
  replace hg := hg.below hb6
  replace B := up B hb6
  clear dc1 ec1 lc1
  replace c1 := c1.below hb6
  clear dc2 ec2 lc2
  replace c2 := c2.below hb6
  clear dc3 ec3 lc3
  replace c3 := c3.below hb6
  clear dc4 ec4 lc4
  replace c4 := c4.below hb6
  clear dc5 ec5 lc5
  replace c5 := c5.below hb6
  clear dc7 ec7 lc7
  replace c7 := c7.below hb6
  have dc1 := c1.c0
  have ec1 := c1.c1
  have lc1 := c1.lt
  have dc2 := c2.c0
  have ec2 := c2.c1
  have lc2 := c2.lt
  have dc3 := c3.c0
  have ec3 := c3.c1
  have lc3 := c3.lt
  have dc4 := c4.c0
  have ec4 := c4.c1
  have lc4 := c4.lt
  have dc5 := c5.c0
  have ec5 := c5.c1
  have lc5 := c5.lt
  have dc7 := c7.c0
  have ec7 := c7.c1
  have lc7 := c7.lt
  clear hb6
  go_wp2
  go_ret
  exact ⟨rfl, up B (al1 _ _)⟩

set_option maxRecDepth 100000 in
theorem undo_10 (m1 e1 m2 e2 : Int) (hm1 : I64 m1) (hm2 : I64 m2) (sm se sr pm pe pr : Int) (hA : addN m1 e1 m2 e2 = ((sm, se), sr)) (hM : mulN m1 e1 m2 e2 = ((pm, pe), pr)) (hs : sr = 0) (hp : (pr == 0) = false) (w : World) (hg : Glob w) :
    Calls Tryd.prog 9 #[.agg #[.int .i64 m1, .int .i64 e1], .agg #[.int .i64 m2, .int .i64 e2]] w fun r w' => r = .returned (.bool true) ∧ Below w.heap.size w w' := by
  subst hs
  have HS := Keep.mk (sub_undoes hA)
  have hsm := I64.right (normZ_right_of_add hA)
  have HA := Keep.mk hA
  have HA2 := Keep.mk ((addN_comm m2 e2 m1 e1).trans hA)
  have HM := Keep.mk hM
  have HM2 := Keep.mk ((mulN_comm m2 e2 m1 e1).trans hM)
  clear hA hM
  go_enter Tryd.func9, Tryd.ntmps9
  go_wp2_with fail
  refine calls_world (fun W => Glob W ∧ Below w.heap.size w W ∧ Cell2 W (w.heap.size) (.int .i64 m1) (.int .i64 e1) ∧ Cell2 W (w.heap.size + 1) (.int .i64 m2) (.int .i64 e2)) ⟨hg.below (al2 w _ _), al2 w _ _, (Cell2.newAt (by simp)).alloc _, (Cell2.newAt (by simp))⟩ ?_
  clear hg
  rintro W ⟨hg, B, c1, c2⟩
  have dc1 := c1.c0
  have ec1 := c1.c1
  have lc1 := c1.lt
  have dc2 := c2.c0
  have ec2 := c2.c1
  have lc2 := c2.lt
  refine (num_works _ hg).mono ?_
  rintro r W1 ⟨rfl, hb1⟩
  replace hg := hg.below hb1
  replace B := up B hb1
  clear dc1 ec1 lc1
  replace c1 := c1.below hb1
  clear dc2 ec2 lc2
  replace c2 := c2.below hb1
  have dc1 := c1.c0
  have ec1 := c1.c1
  have lc1 := c1.lt
  have dc2 := c2.c0
  have ec2 := c2.c1
  have lc2 := c2.lt
  clear hb1
  go_wp2_with fail
  refine (num_add m1 e1 m2 e2 hm1 hm2 _ hg).mono ?_
  rw [HA.out]
  simp only [numRes]
  rintro r W2 ⟨rfl, hb2⟩
  replace hg := hg.below hb2
  replace B := up B hb2
  clear dc1 ec1 lc1
  replace c1 := c1.below hb2
  clear dc2 ec2 lc2
  replace c2 := c2.below hb2
  have dc1 := c1.c0
  have ec1 := c1.c1
  have lc1 := c1.lt
  have dc2 := c2.c0
  have ec2 := c2.c1
  have lc2 := c2.lt
  clear hb2
  go_wp2_with fail
  clear dc1 ec1 lc1
  clear dc2 ec2 lc2
  refine calls_world (fun W => Glob W ∧ Below w.heap.size w W ∧ Cell2 W (w.heap.size) (.int .i64 m1) (.int .i64 e1) ∧ Cell2 W (w.heap.size + 1) (.int .i64 m2) (.int .i64 e2) ∧ Cell2 W W2.heap.size (.int .i64 sm) (.int .i64 se)) ⟨hg.alloc _, up B (al1 _ _), c1.alloc _, c2.alloc _, Cell2.new _ _ _ _⟩ ?_
  clear hg B c1 c2
  rintro W ⟨hg, B, c1, c2, c3⟩
  have dc1 := c1.c0
  have ec1 := c1.c1
  have lc1 := c1.lt
  have dc2 := c2.c0
  have ec2 := c2.c1
  have lc2 := c2.lt
  have dc3 := c3.c0
  have ec3 := c3.c1
  have lc3 := c3.lt
  refine (num_add m2 e2 m1 e1 hm2 hm1 _ hg).mono ?_
  rw [HA2.out]
  simp only [numRes]
  rintro r W3 ⟨rfl, hb3⟩
  replace hg := hg.below hb3
  replace B := up B hb3
  clear dc1 ec1 lc1
  replace c1 := c1.below hb3
  clear dc2 ec2 lc2
  replace c2 := c2.below hb3
  clear dc3 ec3 lc3
  replace c3 := c3.below hb3
  have dc1 := c1.c0
  have ec1 := c1.c1
  have lc1 := c1.lt
  have dc2 := c2.c0
  have ec2 := c2.c1
  have lc2 := c2.lt
  have dc3 := c3.c0
  have ec3 := c3.c1
  have lc3 := c3.lt
  clear hb3
  go_wp2_with fail
  clear dc1 ec1 lc1
  clear dc2 ec2 lc2
  clear dc3 ec3 lc3
  refine calls_world (fun W => Glob W ∧ Below w.heap.size w W ∧ Cell2 W (w.heap.size) (.int .i64 m1) (.int .i64 e1) ∧ Cell2 W (w.heap.size + 1) (.int .i64 m2) (.int .i64 e2) ∧ Cell2 W W2.heap.size (.int .i64 sm) (.int .i64 se) ∧ Cell2 W W3.heap.size (.int .i64 sm) (.int .i64 se)) ⟨hg.alloc _, up B (al1 _ _), c1.alloc _, c2.alloc _, c3.alloc _, Cell2.new _ _ _ _⟩ ?_
  clear hg B c1 c2 c3
  rintro W ⟨hg, B, c1, c2, c3, c4⟩
  have dc1 := c1.c0
  have ec1 := c1.c1
  have lc1 := c1.lt
  have dc2 := c2.c0
  have ec2 := c2.c1
  have lc2 := c2.lt
  have dc3 := c3.c0
  have ec3 := c3.c1
  have lc3 := c3.lt
  have dc4 := c4.c0
  have ec4 := c4.c1
  have lc4 := c4.lt
  refine (num_mul m1 e1 m2 e2 hm1 hm2 _ hg).mono ?_
  rw [HM.out]
  simp only [numRes]
  rintro r W4 ⟨rfl, hb4⟩
  replace hg := hg.below hb4
  replace B := up B hb4
  clear dc1 ec1 lc1
  replace c1 := c1.below hb4
  clear dc2 ec2 lc2
  replace c2 := c2.below hb4
  clear dc3 ec3 lc3
  replace c3 := c3.below hb4
  clear dc4 ec4 lc4
  replace c4 := c4.below hb4
  have dc1 := c1.c0
  have ec1 := c1.c1
  have lc1 := c1.lt
  have dc2 := c2.c0
  have ec2 := c2.c1
  have lc2 := c2.lt
  have dc3 := c3.c0
  have ec3 := c3.c1
  have lc3 := c3.lt
  have dc4 := c4.c0
  have ec4 := c4.c1
  have lc4 := c4.lt
  clear hb4
  go_wp2_with fail
  clear dc1 ec1 lc1
  clear dc2 ec2 lc2
  clear dc3 ec3 lc3
  clear dc4 ec4 lc4
  refine calls_world (fun W => Glob W ∧ Below w.heap.size w W ∧ Cell2 W (w.heap.size) (.int .i64 m1) (.int .i64 e1) ∧ Cell2 W (w.heap.size + 1) (.int .i64 m2) (.int .i64 e2) ∧ Cell2 W W2.heap.size (.int .i64 sm) (.int .i64 se) ∧ Cell2 W W3.heap.size (.int .i64 sm) (.int .i64 se) ∧ Cell2 W W4.heap.size (.int .i64 pm) (.int .i64 pe)) ⟨hg.alloc _, up B (al1 _ _), c1.alloc _, c2.alloc _, c3.alloc _, c4.alloc _, Cell2.new _ _ _ _⟩ ?_
  clear hg B c1 c2 c3 c4
  rintro W ⟨hg, B, c1, c2, c3, c4, c5⟩
  have dc1 := c1.c0
  have ec1 := c1.c1
  have lc1 := c1.lt
  have dc2 := c2.c0
  have ec2 := c2.c1
  have lc2 := c2.lt
  have dc3 := c3.c0
  have ec3 := c3.c1
  have lc3 := c3.lt
  have dc4 := c4.c0
  have ec4 := c4.c1
  have lc4 := c4.lt
  have dc5 := c5.c0
  have ec5 := c5.c1
  have lc5 := c5.lt
  refine (num_mul m2 e2 m1 e1 hm2 hm1 _ hg).mono ?_
  rw [HM2.out]
  simp only [numRes]
  rintro r W5 ⟨rfl, hb5⟩
  replace hg := hg.below hb5
  replace B := up B hb5
  clear dc1 ec1 lc1
  replace c1 := c1.below hb5
  clear dc2 ec2 lc2
  replace c2 := c2.below hb5
  clear dc3 ec3 lc3
  replace c3 := c3.below hb5
  clear dc4 ec4 lc4
  replace c4 := c4.below hb5
  clear dc5 ec5 lc5
  replace c5 := c5.below hb5
  have dc1 := c1.c0
  have ec1 := c1.c1
  have lc1 := c1.lt
  have dc2 := c2.c0
  have ec2 := c2.c1
  have lc2 := c2.lt
  have dc3 := c3.c0
  have ec3 := c3.c1
  have lc3 := c3.lt
  have dc4 := c4.c0
  have ec4 := c4.c1
  have lc4 := c4.lt
  have dc5 := c5.c0
  have ec5 := c5.c1
  have lc5 := c5.lt
  clear hb5
  go_wp2_with fail
  clear dc1 ec1 lc1
  clear dc2 ec2 lc2
  clear dc3 ec3 lc3
  clear dc4 ec4 lc4
  clear dc5 ec5 lc5
  refine calls_world (fun W => Glob W ∧ Below w.heap.size w W ∧ Cell2 W (w.heap.size) (.int .i64 m1) (.int .i64 e1) ∧ Cell2 W (w.heap.size + 1) (.int .i64 m2) (.int .i64 e2) ∧ Cell2 W W2.heap.size (.int .i64 sm) (.int .i64 se) ∧ Cell2 W W3.heap.size (.int .i64 sm) (.int .i64 se) ∧ Cell2 W W4.heap.size (.int .i64 pm) (.int .i64 pe) ∧ Cell2 W W5.heap.size (.int .i64 pm) (.int .i64 pe)) ⟨hg.alloc _, up B (al1 _ _), c1.alloc _, c2.alloc _, c3.alloc _, c4.alloc _, c5.alloc _, Cell2.new _ _ _ _⟩ ?_
  clear hg B c1 c2 c3 c4 c5
  rintro W ⟨hg, B, c1, c2, c3, c4, c5, c6⟩
  have dc1 := c1.c0
  have ec1 := c1.c1
  have lc1 := c1.lt
  have dc2 := c2.c0
  have ec2 := c2.c1
  have lc2 := c2.lt
  have dc3 := c3.c0
  have ec3 := c3.c1
  have lc3 := c3.lt
  have dc4 := c4.c0
  have ec4 := c4.c1
  have lc4 := c4.lt
  have dc5 := c5.c0
  have ec5 := c5.c1
  have lc5 := c5.lt
  have dc6 := c6.c0
  have ec6 := c6.c1
  have lc6 := c6.lt
  refine (num_sub sm se m2 e2 hsm hm2 _ hg).mono ?_
  rw [HS.out]
  simp only [numRes]
  rintro r W6 ⟨rfl, hb6⟩
  replace hg := hg.below hb6
  replace B := up B hb6
  clear dc1 ec1 lc1
  replace c1 := c1.below hb6
  clear dc2 ec2 lc2
  replace c2 := c2.below hb6
  clear dc3 ec3 lc3
  replace c3 := c3.below hb6
  clear dc4 ec4 lc4
  replace c4 := c4.below hb6
  clear dc5 ec5 lc5
  replace c5 := c5.below hb6
  clear dc6 ec6 lc6
  replace c6 := c6.below hb6
  have dc1 := c1.c0
  have ec1 := c1.c1
  have lc1 := c1.lt
  have dc2 := c2.c0
  have ec2 := c2.c1
  have lc2 := c2.lt
  have dc3 := c3.c0
  have ec3 := c3.c1
  have lc3 := c3.lt
  have dc4 := c4.c0
  have ec4 := c4.c1
  have lc4 := c4.lt
  have dc5 := c5.c0
  have ec5 := c5.c1
  have lc5 := c5.lt
  have dc6 := c6.c0
  have ec6 := c6.c1
  have lc6 := c6.lt
  clear hb6
  go_wp2
  go_ret
  exact ⟨rfl, up B (al1 _ _)⟩

set_option maxRecDepth 100000 in
theorem undo_11 (m1 e1 m2 e2 : Int) (hm1 : I64 m1) (hm2 : I64 m2) (sm se sr pm pe pr : Int) (hA : addN m1 e1 m2 e2 = ((sm, se), sr)) (hM : mulN m1 e1 m2 e2 = ((pm, pe), pr)) (hs : sr = 0) (hp : pr = 0) (h0 : m2 = 0) (w : World) (hg : Glob w) :
    Calls Tryd.prog 9 #[.agg #[.int .i64 m1, .int .i64 e1], .agg #[.int .i64 m2, .int .i64 e2]] w fun r w' => r = .returned (.bool true) ∧ Below w.heap.size w w' := by
  subst hs
  have HS := Keep.mk (sub_undoes hA)
  have hsm := I64.right (normZ_right_of_add hA)
  subst hp
  subst h0
  have HA := Keep.mk hA
  have HA2 := Keep.mk ((addN_comm 0 e2 m1 e1).trans hA)
  have HM := Keep.mk hM
  have HM2 := Keep.mk ((mulN_comm 0 e2 m1 e1).trans hM)
  clear hA hM
  go_enter Tryd.func9, Tryd.ntmps9
  go_wp2_with fail
  refine calls_world (fun W => Glob W ∧ Below w.heap.size w W ∧ Cell2 W (w.heap.size) (.int .i64 m1) (.int .i64 e1) ∧ Cell2 W (w.heap.size + 1) (.int .i64 0) (.int .i64 e2)) ⟨hg.below (al2 w _ _), al2 w _ _, (Cell2.newAt (by simp)).alloc _, (Cell2.newAt (by simp))⟩ ?_
  clear hg
  rintro W ⟨hg, B, c1, c2⟩
  have dc1 := c1.c0
  have ec1 := c1.c1
  have lc1 := c1.lt
  have dc2 := c2.c0
  have ec2 := c2.c1
  have lc2 := c2.lt
  refine (num_works _ hg).mono ?_
  rintro r W1 ⟨rfl, hb1⟩
  replace hg := hg.below hb1
  replace B := up B hb1
  clear dc1 ec1 lc1
  replace c1 := c1.below hb1
  clear dc2 ec2 lc2
  replace c2 := c2.below hb1
  have dc1 := c1.c0
  have ec1 := c1.c1
  have lc1 := c1.lt
  have dc2 := c2.c0
  have ec2 := c2.c1
  have lc2 := c2.lt
  clear hb1
  go_wp2_with fail
  refine (num_add m1 e1 0 e2 hm1 hm2 _ hg).mono ?_
  rw [HA.out]
  simp only [numRes]
  rintro r W2 ⟨rfl, hb2⟩
  replace hg := hg.below hb2
  replace B := up B hb2
  clear dc1 ec1 lc1
  replace c1 := c1.below hb2
  clear dc2 ec2 lc2
  replace c2 := c2.below hb2
  have dc1 := c1.c0
  have ec1 := c1.c1
  have lc1 := c1.lt
  have dc2 := c2.c0
  have ec2 := c2.c1
  have lc2 := c2.lt
  clear hb2
  go_wp2_with fail
  clear dc1 ec1 lc1
  clear dc2 ec2 lc2
  refine calls_world (fun W => Glob W ∧ Below w.heap.size w W ∧ Cell2 W (w.heap.size) (.int .i64 m1) (.int .i64 e1) ∧ Cell2 W (w.heap.size + 1) (.int .i64 0) (.int .i64 e2) ∧ Cell2 W W2.heap.size (.int .i64 sm) (.int .i64 se)) ⟨hg.alloc _, up B (al1 _ _), c1.alloc _, c2.alloc _, Cell2.new _ _ _ _⟩ ?_
  clear hg B c1 c2
  rintro W ⟨hg, B, c1, c2, c3⟩
  have dc1 := c1.c0
  have ec1 := c1.c1
  have lc1 := c1.lt
  have dc2 := c2.c0
  have ec2 := c2.c1
  have lc2 := c2.lt
  have dc3 := c3.c0
  have ec3 := c3.c1
  have lc3 := c3.lt
  refine (num_add 0 e2 m1 e1 hm2 hm1 _ hg).mono ?_
  rw [HA2.out]
  simp only [numRes]
  rintro r W3 ⟨rfl, hb3⟩
  replace hg := hg.below hb3
  replace B := up B hb3
  clear dc1 ec1 lc1
  replace c1 := c1.below hb3
  clear dc2 ec2 lc2
  replace c2 := c2.below hb3
  clear dc3 ec3 lc3
  replace c3 := c3.below hb3
  have dc1 := c1.c0
  have ec1 := c1.c1
  have lc1 := c1.lt
  have dc2 := c2.c0
  have ec2 := c2.c1
  have lc2 := c2.lt
  have dc3 := c3.c0
  have ec3 := c3.c1
  have lc3 := c3.lt
  clear hb3
  go_wp2_with fail
  clear dc1 ec1 lc1
  clear dc2 ec2 lc2
  clear dc3 ec3 lc3
  refine calls_world (fun W => Glob W ∧ Below w.heap.size w W ∧ Cell2 W (w.heap.size) (.int .i64 m1) (.int .i64 e1) ∧ Cell2 W (w.heap.size + 1) (.int .i64 0) (.int .i64 e2) ∧ Cell2 W W2.heap.size (.int .i64 sm) (.int .i64 se) ∧ Cell2 W W3.heap.size (.int .i64 sm) (.int .i64 se)) ⟨hg.alloc _, up B (al1 _ _), c1.alloc _, c2.alloc _, c3.alloc _, Cell2.new _ _ _ _⟩ ?_
  clear hg B c1 c2 c3
  rintro W ⟨hg, B, c1, c2, c3, c4⟩
  have dc1 := c1.c0
  have ec1 := c1.c1
  have lc1 := c1.lt
  have dc2 := c2.c0
  have ec2 := c2.c1
  have lc2 := c2.lt
  have dc3 := c3.c0
  have ec3 := c3.c1
  have lc3 := c3.lt
  have dc4 := c4.c0
  have ec4 := c4.c1
  have lc4 := c4.lt
  refine (num_mul m1 e1 0 e2 hm1 hm2 _ hg).mono ?_
  rw [HM.out]
  simp only [numRes]
  rintro r W4 ⟨rfl, hb4⟩
  replace hg := hg.below hb4
  replace B := up B hb4
  clear dc1 ec1 lc1
  replace c1 := c1.below hb4
  clear dc2 ec2 lc2
  replace c2 := c2.below hb4
  clear dc3 ec3 lc3
  replace c3 := c3.below hb4
  clear dc4 ec4 lc4
  replace c4 := c4.below hb4
  have dc1 := c1.c0
  have ec1 := c1.c1
  have lc1 := c1.lt
  have dc2 := c2.c0
  have ec2 := c2.c1
  have lc2 := c2.lt
  have dc3 := c3.c0
  have ec3 := c3.c1
  have lc3 := c3.lt
  have dc4 := c4.c0
  have ec4 := c4.c1
  have lc4 := c4.lt
  clear hb4
  go_wp2_with fail
  clear dc1 ec1 lc1
  clear dc2 ec2 lc2
  clear dc3 ec3 lc3
  clear dc4 ec4 lc4
  refine calls_world (fun W => Glob W ∧ Below w.heap.size w W ∧ Cell2 W (w.heap.size) (.int .i64 m1) (.int .i64 e1) ∧ Cell2 W (w.heap.size + 1) (.int .i64 0) (.int .i64 e2) ∧ Cell2 W W2.heap.size (.int .i64 sm) (.int .i64 se) ∧ Cell2 W W3.heap.size (.int .i64 sm) (.int .i64 se) ∧ Cell2 W W4.heap.size (.int .i64 pm) (.int .i64 pe)) ⟨hg.alloc _, up B (al1 _ _), c1.alloc _, c2.alloc _, c3.alloc _, c4.alloc _, Cell2.new _ _ _ _⟩ ?_
  clear hg B c1 c2 c3 c4
  rintro W ⟨hg, B, c1, c2, c3, c4, c5⟩
  have dc1 := c1.c0
  have ec1 := c1.c1
  have lc1 := c1.lt
  have dc2 := c2.c0
  have ec2 := c2.c1
  have lc2 := c2.lt
  have dc3 := c3.c0
  have ec3 := c3.c1
  have lc3 := c3.lt
  have dc4 := c4.c0
  have ec4 := c4.c1
  have lc4 := c4.lt
  have dc5 := c5.c0
  have ec5 := c5.c1
  have lc5 := c5.lt
  refine (num_mul 0 e2 m1 e1 hm2 hm1 _ hg).mono ?_
  rw [HM2.out]
  simp only [numRes]
  rintro r W5 ⟨rfl, hb5⟩
  replace hg := hg.below hb5
  replace B := up B hb5
  clear dc1 ec1 lc1
  replace c1 := c1.below hb5
  clear dc2 ec2 lc2
  replace c2 := c2.below hb5
  clear dc3 ec3 lc3
  replace c3 := c3.below hb5
  clear dc4 ec4 lc4
  replace c4 := c4.below hb5
  clear dc5 ec5 lc5
  replace c5 := c5.below hb5
  have dc1 := c1.c0
  have ec1 := c1.c1
  have lc1 := c1.lt
  have dc2 := c2.c0
  have ec2 := c2.c1
  have lc2 := c2.lt
  have dc3 := c3.c0
  have ec3 := c3.c1
  have lc3 := c3.lt
  have dc4 := c4.c0
  have ec4 := c4.c1
  have lc4 := c4.lt
  have dc5 := c5.c0
  have ec5 := c5.c1
  have lc5 := c5.lt
  clear hb5
  go_wp2_with fail
  clear dc1 ec1 lc1
  clear dc2 ec2 lc2
  clear dc3 ec3 lc3
  clear dc4 ec4 lc4
  clear dc5 ec5 lc5
  refine calls_world (fun W => Glob W ∧ Below w.heap.size w W ∧ Cell2 W (w.heap.size) (.int .i64 m1) (.int .i64 e1) ∧ Cell2 W (w.heap.size + 1) (.int .i64 0) (.int .i64 e2) ∧ Cell2 W W2.heap.size (.int .i64 sm) (.int .i64 se) ∧ Cell2 W W3.heap.size (.int .i64 sm) (.int .i64 se) ∧ Cell2 W W4.heap.size (.int .i64 pm) (.int .i64 pe) ∧ Cell2 W W5.heap.size (.int .i64 pm) (.int .i64 pe)) ⟨hg.alloc _, up B (al1 _ _), c1.alloc _, c2.alloc _, c3.alloc _, c4.alloc _, c5.alloc _, Cell2.new _ _ _ _⟩ ?_
  clear hg B c1 c2 c3 c4 c5
  rintro W ⟨hg, B, c1, c2, c3, c4, c5, c6⟩
  have dc1 := c1.c0
  have ec1 := c1.c1
  have lc1 := c1.lt
  have dc2 := c2.c0
  have ec2 := c2.c1
  have lc2 := c2.lt
  have dc3 := c3.c0
  have ec3 := c3.c1
  have lc3 := c3.lt
  have dc4 := c4.c0
  have ec4 := c4.c1
  have lc4 := c4.lt
  have dc5 := c5.c0
  have ec5 := c5.c1
  have lc5 := c5.lt
  have dc6 := c6.c0
  have ec6 := c6.c1
  have lc6 := c6.lt
  refine (num_sub sm se 0 e2 hsm hm2 _ hg).mono ?_
  rw [HS.out]
  simp only [numRes]
  rintro r W6 ⟨rfl, hb6⟩
  replace hg := hg.below hb6
  replace B := up B hb6
  clear dc1 ec1 lc1
  replace c1 := c1.below hb6
  clear dc2 ec2 lc2
  replace c2 := c2.below hb6
  clear dc3 ec3 lc3
  replace c3 := c3.below hb6
  clear dc4 ec4 lc4
  replace c4 := c4.below hb6
  clear dc5 ec5 lc5
  replace c5 := c5.below hb6
  clear dc6 ec6 lc6
  replace c6 := c6.below hb6
  have dc1 := c1.c0
  have ec1 := c1.c1
  have lc1 := c1.lt
  have dc2 := c2.c0
  have ec2 := c2.c1
  have lc2 := c2.lt
  have dc3 := c3.c0
  have ec3 := c3.c1
  have lc3 := c3.lt
  have dc4 := c4.c0
  have ec4 := c4.c1
  have lc4 := c4.lt
  have dc5 := c5.c0
  have ec5 := c5.c1
  have lc5 := c5.lt
  have dc6 := c6.c0
  have ec6 := c6.c1
  have lc6 := c6.lt
  clear hb6
  go_wp2
  go_ret
  exact ⟨rfl, up B (al1 _ _)⟩

set_option maxRecDepth 100000 in
theorem undo_12 (m1 e1 m2 e2 : Int) (hm1 : I64 m1) (hm2 : I64 m2) (sm se sr pm pe pr : Int) (hA : addN m1 e1 m2 e2 = ((sm, se), sr)) (hM : mulN m1 e1 m2 e2 = ((pm, pe), pr)) (hs : sr = 0) (hp : pr = 0) (h0 : (m2 == 0) = false) (w : World) (hg : Glob w) :
    Calls Tryd.prog 9 #[.agg #[.int .i64 m1, .int .i64 e1], .agg #[.int .i64 m2, .int .i64 e2]] w fun r w' => r = .returned (.bool true) ∧ Below w.heap.size w w' := by
  subst hs
  have HS := Keep.mk (sub_undoes hA)
  have hsm := I64.right (normZ_right_of_add hA)
  subst hp
  have HD := Keep.mk (div_undoes hM (by simpa using h0))
  have hpm := I64.right (normZ_right_of_mul hM)
  have HA := Keep.mk hA
  have HA2 := Keep.mk ((addN_comm m2 e2 m1 e1).trans hA)
  have HM := Keep.mk hM
  have HM2 := Keep.mk ((mulN_comm m2 e2 m1 e1).trans hM)
  clear hA hM
  go_enter Tryd.func9, Tryd.ntmps9
  go_wp2_with fail
  refine calls_world (fun W => Glob W ∧ Below w.heap.size w W ∧ Cell2 W (w.heap.size) (.int .i64 m1) (.int .i64 e1) ∧ Cell2 W (w.heap.size + 1) (.int .i64 m2) (.int .i64 e2)) ⟨hg.below (al2 w _ _), al2 w _ _, (Cell2.newAt (by simp)).alloc _, (Cell2.newAt (by simp))⟩ ?_
  clear hg
  rintro W ⟨hg, B, c1, c2⟩
  have dc1 := c1.c0
  have ec1 := c1.c1
  have lc1 := c1.lt
  have dc2 := c2.c0
  have ec2 := c2.c1
  have lc2 := c2.lt
  refine (num_works _ hg).mono ?_
  rintro r W1 ⟨rfl, hb1⟩
  replace hg := hg.below hb1
  replace B := up B hb1
  clear dc1 ec1 lc1
  replace c1 := c1.below hb1
  clear dc2 ec2 lc2
  replace c2 := c2.below hb1
  have dc1 := c1.c0
  have ec1 := c1.c1
  have lc1 := c1.lt
  have dc2 := c2.c0
  have ec2 := c2.c1
  have lc2 := c2.lt
  clear hb1
  go_wp2_with fail
  refine (num_add m1 e1 m2 e2 hm1 hm2 _ hg).mono ?_
  rw [HA.out]
  simp only [numRes]
  rintro r W2 ⟨rfl, hb2⟩
  replace hg := hg.below hb2
  replace B := up B hb2
  clear dc1 ec1 lc1
  replace c1 := c1.below hb2
  clear dc2 ec2 lc2
  replace c2 := c2.below hb2
  have dc1 := c1.c0
  have ec1 := c1.c1
  have lc1 := c1.lt
  have dc2 := c2.c0
  have ec2 := c2.c1
  have lc2 := c2.lt
  clear hb2
  go_wp2_with fail
  clear dc1 ec1 lc1
  clear dc2 ec2 lc2
  refine calls_world (fun W => Glob W ∧ Below w.heap.size w W ∧ Cell2 W (w.heap.size) (.int .i64 m1) (.int .i64 e1) ∧ Cell2 W (w.heap.size + 1) (.int .i64 m2) (.int .i64 e2) ∧ Cell2 W W2.heap.size (.int .i64 sm) (.int .i64 se)) ⟨hg.alloc _, up B (al1 _ _), c1.alloc _, c2.alloc _, Cell2.new _ _ _ _⟩ ?_
  clear hg B c1 c2
  rintro W ⟨hg, B, c1, c2, c3⟩
  have dc1 := c1.c0
  have ec1 := c1.c1
  have lc1 := c1.lt
  have dc2 := c2.c0
  have ec2 := c2.c1
  have lc2 := c2.lt
  have dc3 := c3.c0
  have ec3 := c3.c1
  have lc3 := c3.lt
  refine (num_add m2 e2 m1 e1 hm2 hm1 _ hg).mono ?_
  rw [HA2.out]
  simp only [numRes]
  rintro r W3 ⟨rfl, hb3⟩
  replace hg := hg.below hb3
  replace B := up B hb3
  clear dc1 ec1 lc1
  replace c1 := c1.below hb3
  clear dc2 ec2 lc2
  replace c2 := c2.below hb3
  clear dc3 ec3 lc3
  replace c3 := c3.below hb3
  have dc1 := c1.c0
  have ec1 := c1.c1
  have lc1 := c1.lt
  have dc2 := c2.c0
  have ec2 := c2.c1
  have lc2 := c2.lt
  have dc3 := c3.c0
  have ec3 := c3.c1
  have lc3 := c3.lt
  clear hb3
  go_wp2_with fail
  clear dc1 ec1 lc1
  clear dc2 ec2 lc2
  clear dc3 ec3 lc3
  refine calls_world (fun W => Glob W ∧ Below w.heap.size w W ∧ Cell2 W (w.heap.size) (.int .i64 m1) (.int .i64 e1) ∧ Cell2 W (w.heap.size + 1) (.int .i64 m2) (.int .i64 e2) ∧ Cell2 W W2.heap.size (.int .i64 sm) (.int .i64 se) ∧ Cell2 W W3.heap.size (.int .i64 sm) (.int .i64 se)) ⟨hg.alloc _, up B (al1 _ _), c1.alloc _, c2.alloc _, c3.alloc _, Cell2.new _ _ _ _⟩ ?_
  clear hg B c1 c2 c3
  rintro W ⟨hg, B, c1, c2, c3, c4⟩
  have dc1 := c1.c0
  have ec1 := c1.c1
  have lc1 := c1.lt
  have dc2 := c2.c0
  have ec2 := c2.c1
  have lc2 := c2.lt
  have dc3 := c3.c0
  have ec3 := c3.c1
  have lc3 := c3.lt
  have dc4 := c4.c0
  have ec4 := c4.c1
  have lc4 := c4.lt
  refine (num_mul m1 e1 m2 e2 hm1 hm2 _ hg).mono ?_
  rw [HM.out]
  simp only [numRes]
  rintro r W4 ⟨rfl, hb4⟩
  replace hg := hg.below hb4
  replace B := up B hb4
  clear dc1 ec1 lc1
  replace c1 := c1.below hb4
  clear dc2 ec2 lc2
  replace c2 := c2.below hb4
  clear dc3 ec3 lc3
  replace c3 := c3.below hb4
  clear dc4 ec4 lc4
  replace c4 := c4.below hb4
  have dc1 := c1.c0
  have ec1 := c1.c1
  have lc1 := c1.lt
  have dc2 := c2.c0
  have ec2 := c2.c1
  have lc2 := c2.lt
  have dc3 := c3.c0
  have ec3 := c3.c1
  have lc3 := c3.lt
  have dc4 := c4.c0
  have ec4 := c4.c1
  have lc4 := c4.lt
  clear hb4
  go_wp2_with fail
  clear dc1 ec1 lc1
  clear dc2 ec2 lc2
  clear dc3 ec3 lc3
  clear dc4 ec4 lc4
  refine calls_world (fun W => Glob W ∧ Below w.heap.size w W ∧ Cell2 W (w.heap.size) (.int .i64 m1) (.int .i64 e1) ∧ Cell2 W (w.heap.size + 1) (.int .i64 m2) (.int .i64 e2) ∧ Cell2 W W2.heap.size (.int .i64 sm) (.int .i64 se) ∧ Cell2 W W3.heap.size (.int .i64 sm) (.int .i64 se) ∧ Cell2 W W4.heap.size (.int .i64 pm) (.int .i64 pe)) ⟨hg.alloc _, up B (al1 _ _), c1.alloc _, c2.alloc _, c3.alloc _, c4.alloc _, Cell2.new _ _ _ _⟩ ?_
  clear hg B c1 c2 c3 c4
  rintro W ⟨hg, B, c1, c2, c3, c4, c5⟩
  have dc1 := c1.c0
  have ec1 := c1.c1
  have lc1 := c1.lt
  have dc2 := c2.c0
  have ec2 := c2.c1
  have lc2 := c2.lt
  have dc3 := c3.c0
  have ec3 := c3.c1
  have lc3 := c3.lt
  have dc4 := c4.c0
  have ec4 := c4.c1
  have lc4 := c4.lt
  have dc5 := c5.c0
  have ec5 := c5.c1
  have lc5 := c5.lt
  refine (num_mul m2 e2 m1 e1 hm2 hm1 _ hg).mono ?_
  rw [HM2.out]
  simp only [numRes]
  rintro r W5 ⟨rfl, hb5⟩
  replace hg := hg.below hb5
  replace B := up B hb5
  clear dc1 ec1 lc1
  replace c1 := c1.below hb5
  clear dc2 ec2 lc2
  replace c2 := c2.below hb5
  clear dc3 ec3 lc3
  replace c3 := c3.below hb5
  clear dc4 ec4 lc4
  replace c4 := c4.below hb5
  clear dc5 ec5 lc5
  replace c5 := c5.below hb5
  have dc1 := c1.c0
  have ec1 := c1.c1
  have lc1 := c1.lt
  have dc2 := c2.c0
  have ec2 := c2.c1
  have lc2 := c2.lt
  have dc3 := c3.c0
  have ec3 := c3.c1
  have lc3 := c3.lt
  have dc4 := c4.c0
  have ec4 := c4.c1
  have lc4 := c4.lt
  have dc5 := c5.c0
  have ec5 := c5.c1
  have lc5 := c5.lt
  clear hb5
  go_wp2_with fail
  clear dc1 ec1 lc1
  clear dc2 ec2 lc2
  clear dc3 ec3 lc3
  clear dc4 ec4 lc4
  clear dc5 ec5 lc5
  refine calls_world (fun W => Glob W ∧ Below w.heap.size w W ∧ Cell2 W (w.heap.size) (.int .i64 m1) (.int .i64 e1) ∧ Cell2 W (w.heap.size + 1) (.int .i64 m2) (.int .i64 e2) ∧ Cell2 W W2.heap.size (.int .i64 sm) (.int .i64 se) ∧ Cell2 W W3.heap.size (.int .i64 sm) (.int .i64 se) ∧ Cell2 W W4.heap.size (.int .i64 pm) (.int .i64 pe) ∧ Cell2 W W5.heap.size (.int .i64 pm) (.int .i64 pe)) ⟨hg.alloc _, up B (al1 _ _), c1.alloc _, c2.alloc _, c3.alloc _, c4.alloc _, c5.alloc _, Cell2.new _ _ _ _⟩ ?_
  clear hg B c1 c2 c3 c4 c5
  rintro W ⟨hg, B, c1, c2, c3, c4, c5, c6⟩
  have dc1 := c1.c0
  have ec1 := c1.c1
  have lc1 := c1.lt
  have dc2 := c2.c0
  have ec2 := c2.c1
  have lc2 := c2.lt
  have dc3 := c3.c0
  have ec3 := c3.c1
  have lc3 := c3.lt
  have dc4 := c4.c0
  have ec4 := c4.c1
  have lc4 := c4.lt
  have dc5 := c5.c0
  have ec5 := c5.c1
  have lc5 := c5.lt
  have dc6 := c6.c0
  have ec6 := c6.c1
  have lc6 := c6.lt
  refine (num_sub sm se m2 e2 hsm hm2 _ hg).mono ?_
  rw [HS.out]
  simp only [numRes]
  rintro r W6 ⟨rfl, hb6⟩
  replace hg := hg.below hb6
  replace B := up B hb6
  clear dc1 ec1 lc1
  replace c1 := c1.below hb6
  clear dc2 ec2 lc2
  replace c2 := c2.below hb6
  clear dc3 ec3 lc3
  replace c3 := c3.below hb6
  clear dc4 ec4 lc4
  replace c4 := c4.below hb6
  clear dc5 ec5 lc5
  replace c5 := c5.below hb6
  clear dc6 ec6 lc6
  replace c6 := c6.below hb6
  have dc1 := c1.c0
  have ec1 := c1.c1
  have lc1 := c1.lt
  have dc2 := c2.c0
  have ec2 := c2.c1
  have lc2 := c2.lt
  have dc3 := c3.c0
  have ec3 := c3.c1
  have lc3 := c3.lt
  have dc4 := c4.c0
  have ec4 := c4.c1
  have lc4 := c4.lt
  have dc5 := c5.c0
  have ec5 := c5.c1
  have lc5 := c5.lt
  have dc6 := c6.c0
  have ec6 := c6.c1
  have lc6 := c6.lt
  clear hb6
  go_wp2_with fail
  clear dc1 ec1 lc1
  clear dc2 ec2 lc2
  clear dc3 ec3 lc3
  clear dc4 ec4 lc4
  clear dc5 ec5 lc5
  clear dc6 ec6 lc6
  refine calls_world (fun W => Glob W ∧ Below w.heap.size w W ∧ Cell2 W (w.heap.size) (.int .i64 m1) (.int .i64 e1) ∧ Cell2 W (w.heap.size + 1) (.int .i64 m2) (.int .i64 e2) ∧ Cell2 W W2.heap.size (.int .i64 sm) (.int .i64 se) ∧ Cell2 W W3.heap.size (.int .i64 sm) (.int .i64 se) ∧ Cell2 W W4.heap.size (.int .i64 pm) (.int .i64 pe) ∧ Cell2 W W5.heap.size (.int .i64 pm) (.int .i64 pe) ∧ Cell2 W W6.heap.size (.int .i64 m1) (.int .i64 e1)) ⟨hg.alloc _, up B (al1 _ _), c1.alloc _, c2.alloc _, c3.alloc _, c4.alloc _, c5.alloc _, c6.alloc _, Cell2.new _ _ _ _⟩ ?_
  clear hg B c1 c2 c3 c4 c5 c6
  rintro W ⟨hg, B, c1, c2, c3, c4, c5, c6, c7⟩
  have dc1 := c1.c0
  have ec1 := c1.c1
  have lc1 := c1.lt
  have dc2 := c2.c0
  have ec2 := c2.c1
  have lc2 := c2.lt
  have dc3 := c3.c0
  have ec3 := c3.c1
  have lc3 := c3.lt
  have dc4 := c4.c0
  have ec4 := c4.c1
  have lc4 := c4.lt
  have dc5 := c5.c0
  have ec5 := c5.c1
  have lc5 := c5.lt
  have dc6 := c6.c0
  have ec6 := c6.c1
  have lc6 := c6.lt
  have dc7 := c7.c0
  have ec7 := c7.c1
  have lc7 := c7.lt
  refine (num_Div pm pe m2 e2 hpm hm2 _ hg).mono ?_
  rw [HD.out]
  simp only [numRes]
  rintro r W7 ⟨rfl, hb7⟩
  replace hg := hg.below hb7
  replace B := up B hb7
  clear dc1 ec1 lc1
  replace c1 := c1.below hb7
  clear dc2 ec2 lc2
  replace c2 := c2.below hb7
  clear dc3 ec3 lc3
  replace c3 := c3.below hb7
  clear dc4 ec4 lc4
  replace c4 := c4.below hb7
  clear dc5 ec5 lc5
  replace c5 := c5.below hb7
  clear dc6 ec6 lc6
  replace c6 := c6.below hb7
  clear dc7 ec7 lc7
  replace c7 := c7.below hb7
  have dc1 := c1.c0
  have ec1 := c1.c1
  have lc1 := c1.lt
  have dc2 := c2.c0
  have ec2 := c2.c1
  have lc2 := c2.lt
  have dc3 := c3.c0
  have ec3 := c3.c1
  have lc3 := c3.lt
  have dc4 := c4.c0
  have ec4 := c4.c1
  have lc4 := c4.lt
  have dc5 := c5.c0
  have ec5 := c5.c1
  have lc5 := c5.lt
  have dc6 := c6.c0
  have ec6 := c6.c1
  have lc6 := c6.lt
  have dc7 := c7.c0
  have ec7 := c7.c1
  have lc7 := c7.lt
  clear hb7
  go_wp2
  go_ret
  exact ⟨rfl, up B (al1 _ _)⟩


theorem law_undoes (m1 e1 m2 e2 : Int) (hm1 : I64 m1) (hm2 : I64 m2) (w : World) (hg : Glob w) :
    Calls Tryd.prog 9 #[.agg #[.int .i64 m1, .int .i64 e1], .agg #[.int .i64 m2, .int .i64 e2]] w fun r w' => r = .returned (.bool true) ∧ Below w.heap.size w w' := by
  obtain ⟨⟨⟨sm, se⟩, sr⟩, hA⟩ : ∃ p, addN m1 e1 m2 e2 = p := ⟨_, rfl⟩
  obtain ⟨⟨⟨pm, pe⟩, pr⟩, hM⟩ : ∃ p, mulN m1 e1 m2 e2 = p := ⟨_, rfl⟩
  by_cases hs : sr = 0 <;> by_cases hp : pr = 0 <;> by_cases h0 : m2 = 0
  · exact undo_11 m1 e1 m2 e2 hm1 hm2 sm se sr pm pe pr hA hM hs hp h0 w hg
  · exact undo_12 m1 e1 m2 e2 hm1 hm2 sm se sr pm pe pr hA hM hs hp (by simpa using h0) w hg
  · exact undo_10 m1 e1 m2 e2 hm1 hm2 sm se sr pm pe pr hA hM hs (by simpa using hp) w hg
  · exact undo_10 m1 e1 m2 e2 hm1 hm2 sm se sr pm pe pr hA hM hs (by simpa using hp) w hg
  · exact undo_01 m1 e1 m2 e2 hm1 hm2 sm se sr pm pe pr hA hM (by simpa using hs) hp h0 w hg
  · exact undo_02 m1 e1 m2 e2 hm1 hm2 sm se sr pm pe pr hA hM (by simpa using hs) hp (by simpa using h0) w hg
  · exact undo_00 m1 e1 m2 e2 hm1 hm2 sm se sr pm pe pr hA hM (by simpa using hs) (by simpa using hp) w hg
  · exact undo_00 m1 e1 m2 e2 hm1 hm2 sm se sr pm pe pr hA hM (by simpa using hs) (by simpa using hp) w hg
end Go.Proofs.YtljemfajjeoecaaDoor
