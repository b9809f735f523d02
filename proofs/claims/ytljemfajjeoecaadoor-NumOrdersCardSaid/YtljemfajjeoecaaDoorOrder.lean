/- thimblelaw01.NumOrders. Conditions: Glob; the numbers are of int64. -/
import Derived.Test.YtljemfajjeoecaaDoorWorks
import Derived.Test.YtljemfajjeoecaaDoorOrdMath
namespace Go.Proofs.YtljemfajjeoecaaDoor
open Go Go.RowKit Go.Proofs Th
attribute [local go_sem] Above.cell Above.frozen

theorem right_of_add {m1 e1 m2 e2 m f : Int} (h : addN m1 e1 m2 e2 = ((m, f), 0)) : right m f = true := by
  obtain ⟨r1, r2⟩ := addN_rights h
  unfold addN at h
  rw [r1, r2] at h
  exact (normZ_ok h).1

set_option maxRecDepth 100000 in
theorem order_not (m1 e1 m2 e2 m3 e3 : Int) (hm1 : I64 m1) (hm2 : I64 m2) (_hm3 : I64 m3) (h1 : cmpN m1 e1 m2 e2 = (0, 10)) (h2 : cmpN m2 e2 m1 e1 = (0, 10)) (w : World) (hg : Glob w) :
    Calls Tryd.prog 13 #[.agg #[.int .i64 m1, .int .i64 e1], .agg #[.int .i64 m2, .int .i64 e2], .agg #[.int .i64 m3, .int .i64 e3]] w fun r w' => r = .returned (.bool true) ∧ Below w.heap.size w w' := by
  have H1 := Keep.mk h1
  have H2 := Keep.mk h2
  clear h1 h2
  go_enter Tryd.func13, Tryd.ntmps13
  go_wp2_with fail
  refine calls_world (fun W => Glob W ∧ Below w.heap.size w W ∧ Cell2 W (w.heap.size) (.int .i64 m1) (.int .i64 e1) ∧ Cell2 W (w.heap.size + 1) (.int .i64 m2) (.int .i64 e2) ∧ Cell2 W (w.heap.size + 1 + 1) (.int .i64 m3) (.int .i64 e3)) ⟨hg.below (al3 w _ _ _), al3 w _ _ _, (((Cell2.newAt (by simp)).alloc _).alloc _), ((Cell2.newAt (by simp)).alloc _), (Cell2.newAt (by simp))⟩ ?_
  clear hg
  rintro W ⟨hg, B, c1, c2, c3⟩
  have dc1 := c1.c0
  have ec1 := c1.c1
  have lc1 := c1.lt
  have dc2 := c2.c0
  have ec2 := c2.c1
  have lc2 := c2.lt
  have dc3 := c3.c0
  have ec3 := c3.c1
  have lc3 := c3.lt
  refine (num_works _ hg).mono ?_
  rintro r W1 ⟨rfl, hb1⟩
  replace hg := hg.below hb1
  replace B := up B hb1
  clear dc1 ec1 lc1
  replace c1 := c1.below hb1
  clear dc2 ec2 lc2
  replace c2 := c2.below hb1
  clear dc3 ec3 lc3
  replace c3 := c3.below hb1
  have dc1 := c1.c0
  have ec1 := c1.c1
  have lc1 := c1.lt
  have dc2 := c2.c0
  have ec2 := c2.c1
  have lc2 := c2.lt
  have dc3 := c3.c0
  have ec3 := c3.c1
  have lc3 := c3.lt
  clear hb1
  go_wp2_with fail
  refine (num_cmp m1 e1 m2 e2 hm1 hm2 _ hg).mono ?_
  rw [H1.out]
  unfold cmpRes
  rintro r W2 ⟨rfl, hb2⟩
  replace hg := hg.below hb2
  replace B := up B hb2
  clear dc1 ec1 lc1
  replace c1 := c1.below hb2
  clear dc2 ec2 lc2
  replace c2 := c2.below hb2
  clear dc3 ec3 lc3
  replace c3 := c3.below hb2
  have dc1 := c1.c0
  have ec1 := c1.c1
  have lc1 := c1.lt
  have dc2 := c2.c0
  have ec2 := c2.c1
  have lc2 := c2.lt
  have dc3 := c3.c0
  have ec3 := c3.c1
  have lc3 := c3.lt
  clear hb2
  go_wp2_with fail
  refine (num_cmp m2 e2 m1 e1 hm2 hm1 _ hg).mono ?_
  rw [H2.out]
  unfold cmpRes
  rintro r W3 ⟨rfl, hb3⟩
  replace hg := hg.below hb3
  replace B := up B hb3
  clear dc1 ec1 lc1
  replace c1 := c1.below hb3
  clear dc2 ec2 lc2
  replace c2 := c2.below hb3
  clear dc3 ec3 lc3
  replace c3 := c3.below hb3
  have dc1 := c1.c0
  have ec1 := c1.c1
  have lc1 := c1.lt
  have dc2 := c2.c0
  have ec2 := c2.c1
  have lc2 := c2.lt
  have dc3 := c3.c0
  have ec3 := c3.c1
  have lc3 := c3.lt
  clear hb3
  go_wp2
  go_ret
  exact ⟨rfl, B⟩

set_option maxRecDepth 100000 in
theorem order_n0A (m1 e1 m2 e2 m3 e3 : Int) (hm1 : I64 m1) (hm2 : I64 m2) (hm3 : I64 m3) (h1 : cmpN m1 e1 m2 e2 = ((-1), 0)) (h2 : cmpN m2 e2 m1 e1 = (1, 0)) (hs : (m1 == m2 && e1 == e2) = false) (d f g : Int) (hS : subN m1 e1 m2 e2 = ((d, f), g)) (hg0 : (g == 0) = false) (p1 p2 pr q1 q2 qr : Int) (hP : addN m1 e1 m3 e3 = ((p1, p2), pr)) (hQ : addN m2 e2 m3 e3 = ((q1, q2), qr)) (hp : (pr != 0) = true) (w : World) (hg : Glob w) :
    Calls Tryd.prog 13 #[.agg #[.int .i64 m1, .int .i64 e1], .agg #[.int .i64 m2, .int .i64 e2], .agg #[.int .i64 m3, .int .i64 e3]] w fun r w' => r = .returned (.bool true) ∧ Below w.heap.size w w' := by
  have H1 := Keep.mk h1
  clear h1
  have H2 := Keep.mk h2
  clear h2
  have HS := Keep.mk hS
  clear hS
  have HP := Keep.mk hP
  clear hP
  have HQ := Keep.mk hQ
  clear hQ
  go_enter Tryd.func13, Tryd.ntmps13
  go_wp2_with fail
  refine calls_world (fun W => Glob W ∧ Below w.heap.size w W ∧ Cell2 W (w.heap.size) (.int .i64 m1) (.int .i64 e1) ∧ Cell2 W (w.heap.size + 1) (.int .i64 m2) (.int .i64 e2) ∧ Cell2 W (w.heap.size + 1 + 1) (.int .i64 m3) (.int .i64 e3)) ⟨hg.below (al3 w _ _ _), al3 w _ _ _, (((Cell2.newAt (by simp)).alloc _).alloc _), ((Cell2.newAt (by simp)).alloc _), (Cell2.newAt (by simp))⟩ ?_
  clear hg
  rintro W ⟨hg, B, c1, c2, c3⟩
  have dc1 := c1.c0
  have ec1 := c1.c1
  have lc1 := c1.lt
  have dc2 := c2.c0
  have ec2 := c2.c1
  have lc2 := c2.lt
  have dc3 := c3.c0
  have ec3 := c3.c1
  have lc3 := c3.lt
  refine (num_works _ hg).mono ?_
  rintro r W1 ⟨rfl, hb1⟩
  replace hg := hg.below hb1
  replace B := up B hb1
  clear dc1 ec1 lc1
  replace c1 := c1.below hb1
  clear dc2 ec2 lc2
  replace c2 := c2.below hb1
  clear dc3 ec3 lc3
  replace c3 := c3.below hb1
  have dc1 := c1.c0
  have ec1 := c1.c1
  have lc1 := c1.lt
  have dc2 := c2.c0
  have ec2 := c2.c1
  have lc2 := c2.lt
  have dc3 := c3.c0
  have ec3 := c3.c1
  have lc3 := c3.lt
  clear hb1
  go_wp2_with fail
  refine (num_cmp m1 e1 m2 e2 hm1 hm2 _ hg).mono ?_
  rw [H1.out]
  unfold cmpRes
  rintro r W2 ⟨rfl, hb2⟩
  replace hg := hg.below hb2
  replace B := up B hb2
  clear dc1 ec1 lc1
  replace c1 := c1.below hb2
  clear dc2 ec2 lc2
  replace c2 := c2.below hb2
  clear dc3 ec3 lc3
  replace c3 := c3.below hb2
  have dc1 := c1.c0
  have ec1 := c1.c1
  have lc1 := c1.lt
  have dc2 := c2.c0
  have ec2 := c2.c1
  have lc2 := c2.lt
  have dc3 := c3.c0
  have ec3 := c3.c1
  have lc3 := c3.lt
  clear hb2
  go_wp2_with fail
  refine (num_cmp m2 e2 m1 e1 hm2 hm1 _ hg).mono ?_
  rw [H2.out]
  unfold cmpRes
  rintro r W3 ⟨rfl, hb3⟩
  replace hg := hg.below hb3
  replace B := up B hb3
  clear dc1 ec1 lc1
  replace c1 := c1.below hb3
  clear dc2 ec2 lc2
  replace c2 := c2.below hb3
  clear dc3 ec3 lc3
  replace c3 := c3.below hb3
  have dc1 := c1.c0
  have ec1 := c1.c1
  have lc1 := c1.lt
  have dc2 := c2.c0
  have ec2 := c2.c1
  have lc2 := c2.lt
  have dc3 := c3.c0
  have ec3 := c3.c1
  have lc3 := c3.lt
  clear hb3
  go_wp2_with fail
  refine (num_sub m1 e1 m2 e2 hm1 hm2 _ hg).mono ?_
  rw [HS.out]
  simp only [numRes]
  rintro r W4 ⟨rfl, hb4⟩
  replace hg := hg.below hb4
  replace B := up B hb4
  clear dc1 ec1 lc1
  replace c1 := c1.below hb4
  clear dc2 ec2 lc2
  replace c2 := c2.below hb4
  clear dc3 ec3 lc3
  replace c3 := c3.below hb4
  have dc1 := c1.c0
  have ec1 := c1.c1
  have lc1 := c1.lt
  have dc2 := c2.c0
  have ec2 := c2.c1
  have lc2 := c2.lt
  have dc3 := c3.c0
  have ec3 := c3.c1
  have lc3 := c3.lt
  clear hb4
  go_wp2_with fail
  clear dc1 ec1 lc1
  clear dc2 ec2 lc2
  clear dc3 ec3 lc3
  refine calls_world (fun W => Glob W ∧ Below w.heap.size w W ∧ Cell2 W (w.heap.size) (.int .i64 m1) (.int .i64 e1) ∧ Cell2 W (w.heap.size + 1) (.int .i64 m2) (.int .i64 e2) ∧ Cell2 W (w.heap.size + 1 + 1) (.int .i64 m3) (.int .i64 e3) ∧ Cell2 W W4.heap.size (.int .i64 d) (.int .i64 f)) ⟨hg.alloc _, up B (al1 _ _), c1.alloc _, c2.alloc _, c3.alloc _, Cell2.new _ _ _ _⟩ ?_
  clear hg B c1 c2 c3
  rintro W ⟨hg, B, c1, c2, c3, c4⟩
  have dc1 := c1.c0
  have ec1 := c1.c1
  have lc1 := c1.lt
  have dc2 := c2.c0
  have ec2 := c2.c1
  have lc2 := c2.lt
  have dc3 := c3.c0
  have ec3 := c3.c1
  have lc3 := c3.lt
  have dc4 := c4.c0
  have ec4 := c4.c1
  have lc4 := c4.lt
  refine (num_add m1 e1 m3 e3 hm1 hm3 _ hg).mono ?_
  rw [HP.out]
  simp only [numRes]
  rintro r W5 ⟨rfl, hb5⟩
  replace hg := hg.below hb5
  replace B := up B hb5
  clear dc1 ec1 lc1
  replace c1 := c1.below hb5
  clear dc2 ec2 lc2
  replace c2 := c2.below hb5
  clear dc3 ec3 lc3
  replace c3 := c3.below hb5
  clear dc4 ec4 lc4
  replace c4 := c4.below hb5
  have dc1 := c1.c0
  have ec1 := c1.c1
  have lc1 := c1.lt
  have dc2 := c2.c0
  have ec2 := c2.c1
  have lc2 := c2.lt
  have dc3 := c3.c0
  have ec3 := c3.c1
  have lc3 := c3.lt
  have dc4 := c4.c0
  have ec4 := c4.c1
  have lc4 := c4.lt
  clear hb5
  go_wp2_with fail
  clear dc1 ec1 lc1
  clear dc2 ec2 lc2
  clear dc3 ec3 lc3
  clear dc4 ec4 lc4
  refine calls_world (fun W => Glob W ∧ Below w.heap.size w W ∧ Cell2 W (w.heap.size) (.int .i64 m1) (.int .i64 e1) ∧ Cell2 W (w.heap.size + 1) (.int .i64 m2) (.int .i64 e2) ∧ Cell2 W (w.heap.size + 1 + 1) (.int .i64 m3) (.int .i64 e3) ∧ Cell2 W W4.heap.size (.int .i64 d) (.int .i64 f) ∧ Cell2 W W5.heap.size (.int .i64 p1) (.int .i64 p2)) ⟨hg.alloc _, up B (al1 _ _), c1.alloc _, c2.alloc _, c3.alloc _, c4.alloc _, Cell2.new _ _ _ _⟩ ?_
  clear hg B c1 c2 c3 c4
  rintro W ⟨hg, B, c1, c2, c3, c4, c5⟩
  have dc1 := c1.c0
  have ec1 := c1.c1
  have lc1 := c1.lt
  have dc2 := c2.c0
  have ec2 := c2.c1
  have lc2 := c2.lt
  have dc3 := c3.c0
  have ec3 := c3.c1
  have lc3 := c3.lt
  have dc4 := c4.c0
  have ec4 := c4.c1
  have lc4 := c4.lt
  have dc5 := c5.c0
  have ec5 := c5.c1
  have lc5 := c5.lt
  refine (num_add m2 e2 m3 e3 hm2 hm3 _ hg).mono ?_
  rw [HQ.out]
  simp only [numRes]
  rintro r W6 ⟨rfl, hb6⟩
  replace hg := hg.below hb6
  replace B := up B hb6
  clear dc1 ec1 lc1
  replace c1 := c1.below hb6
  clear dc2 ec2 lc2
  replace c2 := c2.below hb6
  clear dc3 ec3 lc3
  replace c3 := c3.below hb6
  clear dc4 ec4 lc4
  replace c4 := c4.below hb6
  clear dc5 ec5 lc5
  replace c5 := c5.below hb6
  have dc1 := c1.c0
  have ec1 := c1.c1
  have lc1 := c1.lt
  have dc2 := c2.c0
  have ec2 := c2.c1
  have lc2 := c2.lt
  have dc3 := c3.c0
  have ec3 := c3.c1
  have lc3 := c3.lt
  have dc4 := c4.c0
  have ec4 := c4.c1
  have lc4 := c4.lt
  have dc5 := c5.c0
  have ec5 := c5.c1
  have lc5 := c5.lt
  clear hb6
  go_wp2
  go_ret
  exact ⟨rfl, up B (al1 _ _)⟩

set_option maxRecDepth 100000 in
theorem order_n0B (m1 e1 m2 e2 m3 e3 : Int) (hm1 : I64 m1) (hm2 : I64 m2) (hm3 : I64 m3) (h1 : cmpN m1 e1 m2 e2 = ((-1), 0)) (h2 : cmpN m2 e2 m1 e1 = (1, 0)) (hs : (m1 == m2 && e1 == e2) = false) (d f g : Int) (hS : subN m1 e1 m2 e2 = ((d, f), g)) (hg0 : (g == 0) = false) (p1 p2 pr q1 q2 qr : Int) (hP : addN m1 e1 m3 e3 = ((p1, p2), pr)) (hQ : addN m2 e2 m3 e3 = ((q1, q2), qr)) (hp : pr = 0) (hq : (qr != 0) = true) (w : World) (hg : Glob w) :
    Calls Tryd.prog 13 #[.agg #[.int .i64 m1, .int .i64 e1], .agg #[.int .i64 m2, .int .i64 e2], .agg #[.int .i64 m3, .int .i64 e3]] w fun r w' => r = .returned (.bool true) ∧ Below w.heap.size w w' := by
  subst hp
  have H1 := Keep.mk h1
  clear h1
  have H2 := Keep.mk h2
  clear h2
  have HS := Keep.mk hS
  clear hS
  have HP := Keep.mk hP
  clear hP
  have HQ := Keep.mk hQ
  clear hQ
  go_enter Tryd.func13, Tryd.ntmps13
  go_wp2_with fail
  refine calls_world (fun W => Glob W ∧ Below w.heap.size w W ∧ Cell2 W (w.heap.size) (.int .i64 m1) (.int .i64 e1) ∧ Cell2 W (w.heap.size + 1) (.int .i64 m2) (.int .i64 e2) ∧ Cell2 W (w.heap.size + 1 + 1) (.int .i64 m3) (.int .i64 e3)) ⟨hg.below (al3 w _ _ _), al3 w _ _ _, (((Cell2.newAt (by simp)).alloc _).alloc _), ((Cell2.newAt (by simp)).alloc _), (Cell2.newAt (by simp))⟩ ?_
  clear hg
  rintro W ⟨hg, B, c1, c2, c3⟩
  have dc1 := c1.c0
  have ec1 := c1.c1
  have lc1 := c1.lt
  have dc2 := c2.c0
  have ec2 := c2.c1
  have lc2 := c2.lt
  have dc3 := c3.c0
  have ec3 := c3.c1
  have lc3 := c3.lt
  refine (num_works _ hg).mono ?_
  rintro r W1 ⟨rfl, hb1⟩
  replace hg := hg.below hb1
  replace B := up B hb1
  clear dc1 ec1 lc1
  replace c1 := c1.below hb1
  clear dc2 ec2 lc2
  replace c2 := c2.below hb1
  clear dc3 ec3 lc3
  replace c3 := c3.below hb1
  have dc1 := c1.c0
  have ec1 := c1.c1
  have lc1 := c1.lt
  have dc2 := c2.c0
  have ec2 := c2.c1
  have lc2 := c2.lt
  have dc3 := c3.c0
  have ec3 := c3.c1
  have lc3 := c3.lt
  clear hb1
  go_wp2_with fail
  refine (num_cmp m1 e1 m2 e2 hm1 hm2 _ hg).mono ?_
  rw [H1.out]
  unfold cmpRes
  rintro r W2 ⟨rfl, hb2⟩
  replace hg := hg.below hb2
  replace B := up B hb2
  clear dc1 ec1 lc1
  replace c1 := c1.below hb2
  clear dc2 ec2 lc2
  replace c2 := c2.below hb2
  clear dc3 ec3 lc3
  replace c3 := c3.below hb2
  have dc1 := c1.c0
  have ec1 := c1.c1
  have lc1 := c1.lt
  have dc2 := c2.c0
  have ec2 := c2.c1
  have lc2 := c2.lt
  have dc3 := c3.c0
  have ec3 := c3.c1
  have lc3 := c3.lt
  clear hb2
  go_wp2_with fail
  refine (num_cmp m2 e2 m1 e1 hm2 hm1 _ hg).mono ?_
  rw [H2.out]
  unfold cmpRes
  rintro r W3 ⟨rfl, hb3⟩
  replace hg := hg.below hb3
  replace B := up B hb3
  clear dc1 ec1 lc1
  replace c1 := c1.below hb3
  clear dc2 ec2 lc2
  replace c2 := c2.below hb3
  clear dc3 ec3 lc3
  replace c3 := c3.below hb3
  have dc1 := c1.c0
  have ec1 := c1.c1
  have lc1 := c1.lt
  have dc2 := c2.c0
  have ec2 := c2.c1
  have lc2 := c2.lt
  have dc3 := c3.c0
  have ec3 := c3.c1
  have lc3 := c3.lt
  clear hb3
  go_wp2_with fail
  refine (num_sub m1 e1 m2 e2 hm1 hm2 _ hg).mono ?_
  rw [HS.out]
  simp only [numRes]
  rintro r W4 ⟨rfl, hb4⟩
  replace hg := hg.below hb4
  replace B := up B hb4
  clear dc1 ec1 lc1
  replace c1 := c1.below hb4
  clear dc2 ec2 lc2
  replace c2 := c2.below hb4
  clear dc3 ec3 lc3
  replace c3 := c3.below hb4
  have dc1 := c1.c0
  have ec1 := c1.c1
  have lc1 := c1.lt
  have dc2 := c2.c0
  have ec2 := c2.c1
  have lc2 := c2.lt
  have dc3 := c3.c0
  have ec3 := c3.c1
  have lc3 := c3.lt
  clear hb4
  go_wp2_with fail
  clear dc1 ec1 lc1
  clear dc2 ec2 lc2
  clear dc3 ec3 lc3
  refine calls_world (fun W => Glob W ∧ Below w.heap.size w W ∧ Cell2 W (w.heap.size) (.int .i64 m1) (.int .i64 e1) ∧ Cell2 W (w.heap.size + 1) (.int .i64 m2) (.int .i64 e2) ∧ Cell2 W (w.heap.size + 1 + 1) (.int .i64 m3) (.int .i64 e3) ∧ Cell2 W W4.heap.size (.int .i64 d) (.int .i64 f)) ⟨hg.alloc _, up B (al1 _ _), c1.alloc _, c2.alloc _, c3.alloc _, Cell2.new _ _ _ _⟩ ?_
  clear hg B c1 c2 c3
  rintro W ⟨hg, B, c1, c2, c3, c4⟩
  have dc1 := c1.c0
  have ec1 := c1.c1
  have lc1 := c1.lt
  have dc2 := c2.c0
  have ec2 := c2.c1
  have lc2 := c2.lt
  have dc3 := c3.c0
  have ec3 := c3.c1
  have lc3 := c3.lt
  have dc4 := c4.c0
  have ec4 := c4.c1
  have lc4 := c4.lt
  refine (num_add m1 e1 m3 e3 hm1 hm3 _ hg).mono ?_
  rw [HP.out]
  simp only [numRes]
  rintro r W5 ⟨rfl, hb5⟩
  replace hg := hg.below hb5
  replace B := up B hb5
  clear dc1 ec1 lc1
  replace c1 := c1.below hb5
  clear dc2 ec2 lc2
  replace c2 := c2.below hb5
  clear dc3 ec3 lc3
  replace c3 := c3.below hb5
  clear dc4 ec4 lc4
  replace c4 := c4.below hb5
  have dc1 := c1.c0
  have ec1 := c1.c1
  have lc1 := c1.lt
  have dc2 := c2.c0
  have ec2 := c2.c1
  have lc2 := c2.lt
  have dc3 := c3.c0
  have ec3 := c3.c1
  have lc3 := c3.lt
  have dc4 := c4.c0
  have ec4 := c4.c1
  have lc4 := c4.lt
  clear hb5
  go_wp2_with fail
  clear dc1 ec1 lc1
  clear dc2 ec2 lc2
  clear dc3 ec3 lc3
  clear dc4 ec4 lc4
  refine calls_world (fun W => Glob W ∧ Below w.heap.size w W ∧ Cell2 W (w.heap.size) (.int .i64 m1) (.int .i64 e1) ∧ Cell2 W (w.heap.size + 1) (.int .i64 m2) (.int .i64 e2) ∧ Cell2 W (w.heap.size + 1 + 1) (.int .i64 m3) (.int .i64 e3) ∧ Cell2 W W4.heap.size (.int .i64 d) (.int .i64 f) ∧ Cell2 W W5.heap.size (.int .i64 p1) (.int .i64 p2)) ⟨hg.alloc _, up B (al1 _ _), c1.alloc _, c2.alloc _, c3.alloc _, c4.alloc _, Cell2.new _ _ _ _⟩ ?_
  clear hg B c1 c2 c3 c4
  rintro W ⟨hg, B, c1, c2, c3, c4, c5⟩
  have dc1 := c1.c0
  have ec1 := c1.c1
  have lc1 := c1.lt
  have dc2 := c2.c0
  have ec2 := c2.c1
  have lc2 := c2.lt
  have dc3 := c3.c0
  have ec3 := c3.c1
  have lc3 := c3.lt
  have dc4 := c4.c0
  have ec4 := c4.c1
  have lc4 := c4.lt
  have dc5 := c5.c0
  have ec5 := c5.c1
  have lc5 := c5.lt
  refine (num_add m2 e2 m3 e3 hm2 hm3 _ hg).mono ?_
  rw [HQ.out]
  simp only [numRes]
  rintro r W6 ⟨rfl, hb6⟩
  replace hg := hg.below hb6
  replace B := up B hb6
  clear dc1 ec1 lc1
  replace c1 := c1.below hb6
  clear dc2 ec2 lc2
  replace c2 := c2.below hb6
  clear dc3 ec3 lc3
  replace c3 := c3.below hb6
  clear dc4 ec4 lc4
  replace c4 := c4.below hb6
  clear dc5 ec5 lc5
  replace c5 := c5.below hb6
  have dc1 := c1.c0
  have ec1 := c1.c1
  have lc1 := c1.lt
  have dc2 := c2.c0
  have ec2 := c2.c1
  have lc2 := c2.lt
  have dc3 := c3.c0
  have ec3 := c3.c1
  have lc3 := c3.lt
  have dc4 := c4.c0
  have ec4 := c4.c1
  have lc4 := c4.lt
  have dc5 := c5.c0
  have ec5 := c5.c1
  have lc5 := c5.lt
  clear hb6
  go_wp2
  go_ret
  exact ⟨rfl, up B (al1 _ _)⟩

set_option maxRecDepth 100000 in
theorem order_n0C (m1 e1 m2 e2 m3 e3 : Int) (hm1 : I64 m1) (hm2 : I64 m2) (hm3 : I64 m3) (h1 : cmpN m1 e1 m2 e2 = ((-1), 0)) (h2 : cmpN m2 e2 m1 e1 = (1, 0)) (hs : (m1 == m2 && e1 == e2) = false) (d f g : Int) (hS : subN m1 e1 m2 e2 = ((d, f), g)) (hg0 : (g == 0) = false) (p1 p2 pr q1 q2 qr : Int) (hP : addN m1 e1 m3 e3 = ((p1, p2), pr)) (hQ : addN m2 e2 m3 e3 = ((q1, q2), qr)) (hp : pr = 0) (hq : qr = 0) (hC : cmpN p1 p2 q1 q2 = ((-1), 0)) (hp1 : I64 p1) (hq1 : I64 q1) (w : World) (hg : Glob w) :
    Calls Tryd.prog 13 #[.agg #[.int .i64 m1, .int .i64 e1], .agg #[.int .i64 m2, .int .i64 e2], .agg #[.int .i64 m3, .int .i64 e3]] w fun r w' => r = .returned (.bool true) ∧ Below w.heap.size w w' := by
  subst hp
  subst hq
  have H1 := Keep.mk h1
  clear h1
  have H2 := Keep.mk h2
  clear h2
  have HS := Keep.mk hS
  clear hS
  have HP := Keep.mk hP
  clear hP
  have HQ := Keep.mk hQ
  clear hQ
  have HC := Keep.mk hC
  clear hC
  go_enter Tryd.func13, Tryd.ntmps13
  go_wp2_with fail
  refine calls_world (fun W => Glob W ∧ Below w.heap.size w W ∧ Cell2 W (w.heap.size) (.int .i64 m1) (.int .i64 e1) ∧ Cell2 W (w.heap.size + 1) (.int .i64 m2) (.int .i64 e2) ∧ Cell2 W (w.heap.size + 1 + 1) (.int .i64 m3) (.int .i64 e3)) ⟨hg.below (al3 w _ _ _), al3 w _ _ _, (((Cell2.newAt (by simp)).alloc _).alloc _), ((Cell2.newAt (by simp)).alloc _), (Cell2.newAt (by simp))⟩ ?_
  clear hg
  rintro W ⟨hg, B, c1, c2, c3⟩
  have dc1 := c1.c0
  have ec1 := c1.c1
  have lc1 := c1.lt
  have dc2 := c2.c0
  have ec2 := c2.c1
  have lc2 := c2.lt
  have dc3 := c3.c0
  have ec3 := c3.c1
  have lc3 := c3.lt
  refine (num_works _ hg).mono ?_
  rintro r W1 ⟨rfl, hb1⟩
  replace hg := hg.below hb1
  replace B := up B hb1
  clear dc1 ec1 lc1
  replace c1 := c1.below hb1
  clear dc2 ec2 lc2
  replace c2 := c2.below hb1
  clear dc3 ec3 lc3
  replace c3 := c3.below hb1
  have dc1 := c1.c0
  have ec1 := c1.c1
  have lc1 := c1.lt
  have dc2 := c2.c0
  have ec2 := c2.c1
  have lc2 := c2.lt
  have dc3 := c3.c0
  have ec3 := c3.c1
  have lc3 := c3.lt
  clear hb1
  go_wp2_with fail
  refine (num_cmp m1 e1 m2 e2 hm1 hm2 _ hg).mono ?_
  rw [H1.out]
  unfold cmpRes
  rintro r W2 ⟨rfl, hb2⟩
  replace hg := hg.below hb2
  replace B := up B hb2
  clear dc1 ec1 lc1
  replace c1 := c1.below hb2
  clear dc2 ec2 lc2
  replace c2 := c2.below hb2
  clear dc3 ec3 lc3
  replace c3 := c3.below hb2
  have dc1 := c1.c0
  have ec1 := c1.c1
  have lc1 := c1.lt
  have dc2 := c2.c0
  have ec2 := c2.c1
  have lc2 := c2.lt
  have dc3 := c3.c0
  have ec3 := c3.c1
  have lc3 := c3.lt
  clear hb2
  go_wp2_with fail
  refine (num_cmp m2 e2 m1 e1 hm2 hm1 _ hg).mono ?_
  rw [H2.out]
  unfold cmpRes
  rintro r W3 ⟨rfl, hb3⟩
  replace hg := hg.below hb3
  replace B := up B hb3
  clear dc1 ec1 lc1
  replace c1 := c1.below hb3
  clear dc2 ec2 lc2
  replace c2 := c2.below hb3
  clear dc3 ec3 lc3
  replace c3 := c3.below hb3
  have dc1 := c1.c0
  have ec1 := c1.c1
  have lc1 := c1.lt
  have dc2 := c2.c0
  have ec2 := c2.c1
  have lc2 := c2.lt
  have dc3 := c3.c0
  have ec3 := c3.c1
  have lc3 := c3.lt
  clear hb3
  go_wp2_with fail
  refine (num_sub m1 e1 m2 e2 hm1 hm2 _ hg).mono ?_
  rw [HS.out]
  simp only [numRes]
  rintro r W4 ⟨rfl, hb4⟩
  replace hg := hg.below hb4
  replace B := up B hb4
  clear dc1 ec1 lc1
  replace c1 := c1.below hb4
  clear dc2 ec2 lc2
  replace c2 := c2.below hb4
  clear dc3 ec3 lc3
  replace c3 := c3.below hb4
  have dc1 := c1.c0
  have ec1 := c1.c1
  have lc1 := c1.lt
  have dc2 := c2.c0
  have ec2 := c2.c1
  have lc2 := c2.lt
  have dc3 := c3.c0
  have ec3 := c3.c1
  have lc3 := c3.lt
  clear hb4
  go_wp2_with fail
  clear dc1 ec1 lc1
  clear dc2 ec2 lc2
  clear dc3 ec3 lc3
  refine calls_world (fun W => Glob W ∧ Below w.heap.size w W ∧ Cell2 W (w.heap.size) (.int .i64 m1) (.int .i64 e1) ∧ Cell2 W (w.heap.size + 1) (.int .i64 m2) (.int .i64 e2) ∧ Cell2 W (w.heap.size + 1 + 1) (.int .i64 m3) (.int .i64 e3) ∧ Cell2 W W4.heap.size (.int .i64 d) (.int .i64 f)) ⟨hg.alloc _, up B (al1 _ _), c1.alloc _, c2.alloc _, c3.alloc _, Cell2.new _ _ _ _⟩ ?_
  clear hg B c1 c2 c3
  rintro W ⟨hg, B, c1, c2, c3, c4⟩
  have dc1 := c1.c0
  have ec1 := c1.c1
  have lc1 := c1.lt
  have dc2 := c2.c0
  have ec2 := c2.c1
  have lc2 := c2.lt
  have dc3 := c3.c0
  have ec3 := c3.c1
  have lc3 := c3.lt
  have dc4 := c4.c0
  have ec4 := c4.c1
  have lc4 := c4.lt
  refine (num_add m1 e1 m3 e3 hm1 hm3 _ hg).mono ?_
  rw [HP.out]
  simp only [numRes]
  rintro r W5 ⟨rfl, hb5⟩
  replace hg := hg.below hb5
  replace B := up B hb5
  clear dc1 ec1 lc1
  replace c1 := c1.below hb5
  clear dc2 ec2 lc2
  replace c2 := c2.below hb5
  clear dc3 ec3 lc3
  replace c3 := c3.below hb5
  clear dc4 ec4 lc4
  replace c4 := c4.below hb5
  have dc1 := c1.c0
  have ec1 := c1.c1
  have lc1 := c1.lt
  have dc2 := c2.c0
  have ec2 := c2.c1
  have lc2 := c2.lt
  have dc3 := c3.c0
  have ec3 := c3.c1
  have lc3 := c3.lt
  have dc4 := c4.c0
  have ec4 := c4.c1
  have lc4 := c4.lt
  clear hb5
  go_wp2_with fail
  clear dc1 ec1 lc1
  clear dc2 ec2 lc2
  clear dc3 ec3 lc3
  clear dc4 ec4 lc4
  refine calls_world (fun W => Glob W ∧ Below w.heap.size w W ∧ Cell2 W (w.heap.size) (.int .i64 m1) (.int .i64 e1) ∧ Cell2 W (w.heap.size + 1) (.int .i64 m2) (.int .i64 e2) ∧ Cell2 W (w.heap.size + 1 + 1) (.int .i64 m3) (.int .i64 e3) ∧ Cell2 W W4.heap.size (.int .i64 d) (.int .i64 f) ∧ Cell2 W W5.heap.size (.int .i64 p1) (.int .i64 p2)) ⟨hg.alloc _, up B (al1 _ _), c1.alloc _, c2.alloc _, c3.alloc _, c4.alloc _, Cell2.new _ _ _ _⟩ ?_
  clear hg B c1 c2 c3 c4
  rintro W ⟨hg, B, c1, c2, c3, c4, c5⟩
  have dc1 := c1.c0
  have ec1 := c1.c1
  have lc1 := c1.lt
  have dc2 := c2.c0
  have ec2 := c2.c1
  have lc2 := c2.lt
  have dc3 := c3.c0
  have ec3 := c3.c1
  have lc3 := c3.lt
  have dc4 := c4.c0
  have ec4 := c4.c1
  have lc4 := c4.lt
  have dc5 := c5.c0
  have ec5 := c5.c1
  have lc5 := c5.lt
  refine (num_add m2 e2 m3 e3 hm2 hm3 _ hg).mono ?_
  rw [HQ.out]
  simp only [numRes]
  rintro r W6 ⟨rfl, hb6⟩
  replace hg := hg.below hb6
  replace B := up B hb6
  clear dc1 ec1 lc1
  replace c1 := c1.below hb6
  clear dc2 ec2 lc2
  replace c2 := c2.below hb6
  clear dc3 ec3 lc3
  replace c3 := c3.below hb6
  clear dc4 ec4 lc4
  replace c4 := c4.below hb6
  clear dc5 ec5 lc5
  replace c5 := c5.below hb6
  have dc1 := c1.c0
  have ec1 := c1.c1
  have lc1 := c1.lt
  have dc2 := c2.c0
  have ec2 := c2.c1
  have lc2 := c2.lt
  have dc3 := c3.c0
  have ec3 := c3.c1
  have lc3 := c3.lt
  have dc4 := c4.c0
  have ec4 := c4.c1
  have lc4 := c4.lt
  have dc5 := c5.c0
  have ec5 := c5.c1
  have lc5 := c5.lt
  clear hb6
  go_wp2_with fail
  clear dc1 ec1 lc1
  clear dc2 ec2 lc2
  clear dc3 ec3 lc3
  clear dc4 ec4 lc4
  clear dc5 ec5 lc5
  refine calls_world (fun W => Glob W ∧ Below w.heap.size w W ∧ Cell2 W (w.heap.size) (.int .i64 m1) (.int .i64 e1) ∧ Cell2 W (w.heap.size + 1) (.int .i64 m2) (.int .i64 e2) ∧ Cell2 W (w.heap.size + 1 + 1) (.int .i64 m3) (.int .i64 e3) ∧ Cell2 W W4.heap.size (.int .i64 d) (.int .i64 f) ∧ Cell2 W W5.heap.size (.int .i64 p1) (.int .i64 p2) ∧ Cell2 W W6.heap.size (.int .i64 q1) (.int .i64 q2)) ⟨hg.alloc _, up B (al1 _ _), c1.alloc _, c2.alloc _, c3.alloc _, c4.alloc _, c5.alloc _, Cell2.new _ _ _ _⟩ ?_
  clear hg B c1 c2 c3 c4 c5
  rintro W ⟨hg, B, c1, c2, c3, c4, c5, c6⟩
  have dc1 := c1.c0
  have ec1 := c1.c1
  have lc1 := c1.lt
  have dc2 := c2.c0
  have ec2 := c2.c1
  have lc2 := c2.lt
  have dc3 := c3.c0
  have ec3 := c3.c1
  have lc3 := c3.lt
  have dc4 := c4.c0
  have ec4 := c4.c1
  have lc4 := c4.lt
  have dc5 := c5.c0
  have ec5 := c5.c1
  have lc5 := c5.lt
  have dc6 := c6.c0
  have ec6 := c6.c1
  have lc6 := c6.lt
  refine (num_cmp p1 p2 q1 q2 hp1 hq1 _ hg).mono ?_
  rw [HC.out]
  unfold cmpRes
  rintro r W7 ⟨rfl, hb7⟩
  replace hg := hg.below hb7
  replace B := up B hb7
  clear dc1 ec1 lc1
  replace c1 := c1.below hb7
  clear dc2 ec2 lc2
  replace c2 := c2.below hb7
  clear dc3 ec3 lc3
  replace c3 := c3.below hb7
  clear dc4 ec4 lc4
  replace c4 := c4.below hb7
  clear dc5 ec5 lc5
  replace c5 := c5.below hb7
  clear dc6 ec6 lc6
  replace c6 := c6.below hb7
  have dc1 := c1.c0
  have ec1 := c1.c1
  have lc1 := c1.lt
  have dc2 := c2.c0
  have ec2 := c2.c1
  have lc2 := c2.lt
  have dc3 := c3.c0
  have ec3 := c3.c1
  have lc3 := c3.lt
  have dc4 := c4.c0
  have ec4 := c4.c1
  have lc4 := c4.lt
  have dc5 := c5.c0
  have ec5 := c5.c1
  have lc5 := c5.lt
  have dc6 := c6.c0
  have ec6 := c6.c1
  have lc6 := c6.lt
  clear hb7
  go_wp2
  go_ret
  exact ⟨rfl, B⟩

set_option maxRecDepth 100000 in
theorem order_n1A (m1 e1 m2 e2 m3 e3 : Int) (hm1 : I64 m1) (hm2 : I64 m2) (hm3 : I64 m3) (h1 : cmpN m1 e1 m2 e2 = ((-1), 0)) (h2 : cmpN m2 e2 m1 e1 = (1, 0)) (hs : (m1 == m2 && e1 == e2) = false) (d f g : Int) (hS : subN m1 e1 m2 e2 = ((d, f), g)) (hg0 : g = 0) (hd : d < 0) (p1 p2 pr q1 q2 qr : Int) (hP : addN m1 e1 m3 e3 = ((p1, p2), pr)) (hQ : addN m2 e2 m3 e3 = ((q1, q2), qr)) (hp : (pr != 0) = true) (w : World) (hg : Glob w) :
    Calls Tryd.prog 13 #[.agg #[.int .i64 m1, .int .i64 e1], .agg #[.int .i64 m2, .int .i64 e2], .agg #[.int .i64 m3, .int .i64 e3]] w fun r w' => r = .returned (.bool true) ∧ Below w.heap.size w w' := by
  subst hg0
  have H1 := Keep.mk h1
  clear h1
  have H2 := Keep.mk h2
  clear h2
  have HS := Keep.mk hS
  clear hS
  have HP := Keep.mk hP
  clear hP
  have HQ := Keep.mk hQ
  clear hQ
  go_enter Tryd.func13, Tryd.ntmps13
  go_wp2_with fail
  refine calls_world (fun W => Glob W ∧ Below w.heap.size w W ∧ Cell2 W (w.heap.size) (.int .i64 m1) (.int .i64 e1) ∧ Cell2 W (w.heap.size + 1) (.int .i64 m2) (.int .i64 e2) ∧ Cell2 W (w.heap.size + 1 + 1) (.int .i64 m3) (.int .i64 e3)) ⟨hg.below (al3 w _ _ _), al3 w _ _ _, (((Cell2.newAt (by simp)).alloc _).alloc _), ((Cell2.newAt (by simp)).alloc _), (Cell2.newAt (by simp))⟩ ?_
  clear hg
  rintro W ⟨hg, B, c1, c2, c3⟩
  have dc1 := c1.c0
  have ec1 := c1.c1
  have lc1 := c1.lt
  have dc2 := c2.c0
  have ec2 := c2.c1
  have lc2 := c2.lt
  have dc3 := c3.c0
  have ec3 := c3.c1
  have lc3 := c3.lt
  refine (num_works _ hg).mono ?_
  rintro r W1 ⟨rfl, hb1⟩
  replace hg := hg.below hb1
  replace B := up B hb1
  clear dc1 ec1 lc1
  replace c1 := c1.below hb1
  clear dc2 ec2 lc2
  replace c2 := c2.below hb1
  clear dc3 ec3 lc3
  replace c3 := c3.below hb1
  have dc1 := c1.c0
  have ec1 := c1.c1
  have lc1 := c1.lt
  have dc2 := c2.c0
  have ec2 := c2.c1
  have lc2 := c2.lt
  have dc3 := c3.c0
  have ec3 := c3.c1
  have lc3 := c3.lt
  clear hb1
  go_wp2_with fail
  refine (num_cmp m1 e1 m2 e2 hm1 hm2 _ hg).mono ?_
  rw [H1.out]
  unfold cmpRes
  rintro r W2 ⟨rfl, hb2⟩
  replace hg := hg.below hb2
  replace B := up B hb2
  clear dc1 ec1 lc1
  replace c1 := c1.below hb2
  clear dc2 ec2 lc2
  replace c2 := c2.below hb2
  clear dc3 ec3 lc3
  replace c3 := c3.below hb2
  have dc1 := c1.c0
  have ec1 := c1.c1
  have lc1 := c1.lt
  have dc2 := c2.c0
  have ec2 := c2.c1
  have lc2 := c2.lt
  have dc3 := c3.c0
  have ec3 := c3.c1
  have lc3 := c3.lt
  clear hb2
  go_wp2_with fail
  refine (num_cmp m2 e2 m1 e1 hm2 hm1 _ hg).mono ?_
  rw [H2.out]
  unfold cmpRes
  rintro r W3 ⟨rfl, hb3⟩
  replace hg := hg.below hb3
  replace B := up B hb3
  clear dc1 ec1 lc1
  replace c1 := c1.below hb3
  clear dc2 ec2 lc2
  replace c2 := c2.below hb3
  clear dc3 ec3 lc3
  replace c3 := c3.below hb3
  have dc1 := c1.c0
  have ec1 := c1.c1
  have lc1 := c1.lt
  have dc2 := c2.c0
  have ec2 := c2.c1
  have lc2 := c2.lt
  have dc3 := c3.c0
  have ec3 := c3.c1
  have lc3 := c3.lt
  clear hb3
  go_wp2_with fail
  refine (num_sub m1 e1 m2 e2 hm1 hm2 _ hg).mono ?_
  rw [HS.out]
  simp only [numRes]
  rintro r W4 ⟨rfl, hb4⟩
  replace hg := hg.below hb4
  replace B := up B hb4
  clear dc1 ec1 lc1
  replace c1 := c1.below hb4
  clear dc2 ec2 lc2
  replace c2 := c2.below hb4
  clear dc3 ec3 lc3
  replace c3 := c3.below hb4
  have dc1 := c1.c0
  have ec1 := c1.c1
  have lc1 := c1.lt
  have dc2 := c2.c0
  have ec2 := c2.c1
  have lc2 := c2.lt
  have dc3 := c3.c0
  have ec3 := c3.c1
  have lc3 := c3.lt
  clear hb4
  go_wp2_with fail
  clear dc1 ec1 lc1
  clear dc2 ec2 lc2
  clear dc3 ec3 lc3
  refine calls_world (fun W => Glob W ∧ Below w.heap.size w W ∧ Cell2 W (w.heap.size) (.int .i64 m1) (.int .i64 e1) ∧ Cell2 W (w.heap.size + 1) (.int .i64 m2) (.int .i64 e2) ∧ Cell2 W (w.heap.size + 1 + 1) (.int .i64 m3) (.int .i64 e3) ∧ Cell2 W W4.heap.size (.int .i64 d) (.int .i64 f)) ⟨hg.alloc _, up B (al1 _ _), c1.alloc _, c2.alloc _, c3.alloc _, Cell2.new _ _ _ _⟩ ?_
  clear hg B c1 c2 c3
  rintro W ⟨hg, B, c1, c2, c3, c4⟩
  have dc1 := c1.c0
  have ec1 := c1.c1
  have lc1 := c1.lt
  have dc2 := c2.c0
  have ec2 := c2.c1
  have lc2 := c2.lt
  have dc3 := c3.c0
  have ec3 := c3.c1
  have lc3 := c3.lt
  have dc4 := c4.c0
  have ec4 := c4.c1
  have lc4 := c4.lt
  refine (num_add m1 e1 m3 e3 hm1 hm3 _ hg).mono ?_
  rw [HP.out]
  simp only [numRes]
  rintro r W5 ⟨rfl, hb5⟩
  replace hg := hg.below hb5
  replace B := up B hb5
  clear dc1 ec1 lc1
  replace c1 := c1.below hb5
  clear dc2 ec2 lc2
  replace c2 := c2.below hb5
  clear dc3 ec3 lc3
  replace c3 := c3.below hb5
  clear dc4 ec4 lc4
  replace c4 := c4.below hb5
  have dc1 := c1.c0
  have ec1 := c1.c1
  have lc1 := c1.lt
  have dc2 := c2.c0
  have ec2 := c2.c1
  have lc2 := c2.lt
  have dc3 := c3.c0
  have ec3 := c3.c1
  have lc3 := c3.lt
  have dc4 := c4.c0
  have ec4 := c4.c1
  have lc4 := c4.lt
  clear hb5
  go_wp2_with fail
  clear dc1 ec1 lc1
  clear dc2 ec2 lc2
  clear dc3 ec3 lc3
  clear dc4 ec4 lc4
  refine calls_world (fun W => Glob W ∧ Below w.heap.size w W ∧ Cell2 W (w.heap.size) (.int .i64 m1) (.int .i64 e1) ∧ Cell2 W (w.heap.size + 1) (.int .i64 m2) (.int .i64 e2) ∧ Cell2 W (w.heap.size + 1 + 1) (.int .i64 m3) (.int .i64 e3) ∧ Cell2 W W4.heap.size (.int .i64 d) (.int .i64 f) ∧ Cell2 W W5.heap.size (.int .i64 p1) (.int .i64 p2)) ⟨hg.alloc _, up B (al1 _ _), c1.alloc _, c2.alloc _, c3.alloc _, c4.alloc _, Cell2.new _ _ _ _⟩ ?_
  clear hg B c1 c2 c3 c4
  rintro W ⟨hg, B, c1, c2, c3, c4, c5⟩
  have dc1 := c1.c0
  have ec1 := c1.c1
  have lc1 := c1.lt
  have dc2 := c2.c0
  have ec2 := c2.c1
  have lc2 := c2.lt
  have dc3 := c3.c0
  have ec3 := c3.c1
  have lc3 := c3.lt
  have dc4 := c4.c0
  have ec4 := c4.c1
  have lc4 := c4.lt
  have dc5 := c5.c0
  have ec5 := c5.c1
  have lc5 := c5.lt
  refine (num_add m2 e2 m3 e3 hm2 hm3 _ hg).mono ?_
  rw [HQ.out]
  simp only [numRes]
  rintro r W6 ⟨rfl, hb6⟩
  replace hg := hg.below hb6
  replace B := up B hb6
  clear dc1 ec1 lc1
  replace c1 := c1.below hb6
  clear dc2 ec2 lc2
  replace c2 := c2.below hb6
  clear dc3 ec3 lc3
  replace c3 := c3.below hb6
  clear dc4 ec4 lc4
  replace c4 := c4.below hb6
  clear dc5 ec5 lc5
  replace c5 := c5.below hb6
  have dc1 := c1.c0
  have ec1 := c1.c1
  have lc1 := c1.lt
  have dc2 := c2.c0
  have ec2 := c2.c1
  have lc2 := c2.lt
  have dc3 := c3.c0
  have ec3 := c3.c1
  have lc3 := c3.lt
  have dc4 := c4.c0
  have ec4 := c4.c1
  have lc4 := c4.lt
  have dc5 := c5.c0
  have ec5 := c5.c1
  have lc5 := c5.lt
  clear hb6
  go_wp2
  go_ret
  exact ⟨rfl, up B (al1 _ _)⟩

set_option maxRecDepth 100000 in
theorem order_n1B (m1 e1 m2 e2 m3 e3 : Int) (hm1 : I64 m1) (hm2 : I64 m2) (hm3 : I64 m3) (h1 : cmpN m1 e1 m2 e2 = ((-1), 0)) (h2 : cmpN m2 e2 m1 e1 = (1, 0)) (hs : (m1 == m2 && e1 == e2) = false) (d f g : Int) (hS : subN m1 e1 m2 e2 = ((d, f), g)) (hg0 : g = 0) (hd : d < 0) (p1 p2 pr q1 q2 qr : Int) (hP : addN m1 e1 m3 e3 = ((p1, p2), pr)) (hQ : addN m2 e2 m3 e3 = ((q1, q2), qr)) (hp : pr = 0) (hq : (qr != 0) = true) (w : World) (hg : Glob w) :
    Calls Tryd.prog 13 #[.agg #[.int .i64 m1, .int .i64 e1], .agg #[.int .i64 m2, .int .i64 e2], .agg #[.int .i64 m3, .int .i64 e3]] w fun r w' => r = .returned (.bool true) ∧ Below w.heap.size w w' := by
  subst hg0
  subst hp
  have H1 := Keep.mk h1
  clear h1
  have H2 := Keep.mk h2
  clear h2
  have HS := Keep.mk hS
  clear hS
  have HP := Keep.mk hP
  clear hP
  have HQ := Keep.mk hQ
  clear hQ
  go_enter Tryd.func13, Tryd.ntmps13
  go_wp2_with fail
  refine calls_world (fun W => Glob W ∧ Below w.heap.size w W ∧ Cell2 W (w.heap.size) (.int .i64 m1) (.int .i64 e1) ∧ Cell2 W (w.heap.size + 1) (.int .i64 m2) (.int .i64 e2) ∧ Cell2 W (w.heap.size + 1 + 1) (.int .i64 m3) (.int .i64 e3)) ⟨hg.below (al3 w _ _ _), al3 w _ _ _, (((Cell2.newAt (by simp)).alloc _).alloc _), ((Cell2.newAt (by simp)).alloc _), (Cell2.newAt (by simp))⟩ ?_
  clear hg
  rintro W ⟨hg, B, c1, c2, c3⟩
  have dc1 := c1.c0
  have ec1 := c1.c1
  have lc1 := c1.lt
  have dc2 := c2.c0
  have ec2 := c2.c1
  have lc2 := c2.lt
  have dc3 := c3.c0
  have ec3 := c3.c1
  have lc3 := c3.lt
  refine (num_works _ hg).mono ?_
  rintro r W1 ⟨rfl, hb1⟩
  replace hg := hg.below hb1
  replace B := up B hb1
  clear dc1 ec1 lc1
  replace c1 := c1.below hb1
  clear dc2 ec2 lc2
  replace c2 := c2.below hb1
  clear dc3 ec3 lc3
  replace c3 := c3.below hb1
  have dc1 := c1.c0
  have ec1 := c1.c1
  have lc1 := c1.lt
  have dc2 := c2.c0
  have ec2 := c2.c1
  have lc2 := c2.lt
  have dc3 := c3.c0
  have ec3 := c3.c1
  have lc3 := c3.lt
  clear hb1
  go_wp2_with fail
  refine (num_cmp m1 e1 m2 e2 hm1 hm2 _ hg).mono ?_
  rw [H1.out]
  unfold cmpRes
  rintro r W2 ⟨rfl, hb2⟩
  replace hg := hg.below hb2
  replace B := up B hb2
  clear dc1 ec1 lc1
  replace c1 := c1.below hb2
  clear dc2 ec2 lc2
  replace c2 := c2.below hb2
  clear dc3 ec3 lc3
  replace c3 := c3.below hb2
  have dc1 := c1.c0
  have ec1 := c1.c1
  have lc1 := c1.lt
  have dc2 := c2.c0
  have ec2 := c2.c1
  have lc2 := c2.lt
  have dc3 := c3.c0
  have ec3 := c3.c1
  have lc3 := c3.lt
  clear hb2
  go_wp2_with fail
  refine (num_cmp m2 e2 m1 e1 hm2 hm1 _ hg).mono ?_
  rw [H2.out]
  unfold cmpRes
  rintro r W3 ⟨rfl, hb3⟩
  replace hg := hg.below hb3
  replace B := up B hb3
  clear dc1 ec1 lc1
  replace c1 := c1.below hb3
  clear dc2 ec2 lc2
  replace c2 := c2.below hb3
  clear dc3 ec3 lc3
  replace c3 := c3.below hb3
  have dc1 := c1.c0
  have ec1 := c1.c1
  have lc1 := c1.lt
  have dc2 := c2.c0
  have ec2 := c2.c1
  have lc2 := c2.lt
  have dc3 := c3.c0
  have ec3 := c3.c1
  have lc3 := c3.lt
  clear hb3
  go_wp2_with fail
  refine (num_sub m1 e1 m2 e2 hm1 hm2 _ hg).mono ?_
  rw [HS.out]
  simp only [numRes]
  rintro r W4 ⟨rfl, hb4⟩
  replace hg := hg.below hb4
  replace B := up B hb4
  clear dc1 ec1 lc1
  replace c1 := c1.below hb4
  clear dc2 ec2 lc2
  replace c2 := c2.below hb4
  clear dc3 ec3 lc3
  replace c3 := c3.below hb4
  have dc1 := c1.c0
  have ec1 := c1.c1
  have lc1 := c1.lt
  have dc2 := c2.c0
  have ec2 := c2.c1
  have lc2 := c2.lt
  have dc3 := c3.c0
  have ec3 := c3.c1
  have lc3 := c3.lt
  clear hb4
  go_wp2_with fail
  clear dc1 ec1 lc1
  clear dc2 ec2 lc2
  clear dc3 ec3 lc3
  refine calls_world (fun W => Glob W ∧ Below w.heap.size w W ∧ Cell2 W (w.heap.size) (.int .i64 m1) (.int .i64 e1) ∧ Cell2 W (w.heap.size + 1) (.int .i64 m2) (.int .i64 e2) ∧ Cell2 W (w.heap.size + 1 + 1) (.int .i64 m3) (.int .i64 e3) ∧ Cell2 W W4.heap.size (.int .i64 d) (.int .i64 f)) ⟨hg.alloc _, up B (al1 _ _), c1.alloc _, c2.alloc _, c3.alloc _, Cell2.new _ _ _ _⟩ ?_
  clear hg B c1 c2 c3
  rintro W ⟨hg, B, c1, c2, c3, c4⟩
  have dc1 := c1.c0
  have ec1 := c1.c1
  have lc1 := c1.lt
  have dc2 := c2.c0
  have ec2 := c2.c1
  have lc2 := c2.lt
  have dc3 := c3.c0
  have ec3 := c3.c1
  have lc3 := c3.lt
  have dc4 := c4.c0
  have ec4 := c4.c1
  have lc4 := c4.lt
  refine (num_add m1 e1 m3 e3 hm1 hm3 _ hg).mono ?_
  rw [HP.out]
  simp only [numRes]
  rintro r W5 ⟨rfl, hb5⟩
  replace hg := hg.below hb5
  replace B := up B hb5
  clear dc1 ec1 lc1
  replace c1 := c1.below hb5
  clear dc2 ec2 lc2
  replace c2 := c2.below hb5
  clear dc3 ec3 lc3
  replace c3 := c3.below hb5
  clear dc4 ec4 lc4
  replace c4 := c4.below hb5
  have dc1 := c1.c0
  have ec1 := c1.c1
  have lc1 := c1.lt
  have dc2 := c2.c0
  have ec2 := c2.c1
  have lc2 := c2.lt
  have dc3 := c3.c0
  have ec3 := c3.c1
  have lc3 := c3.lt
  have dc4 := c4.c0
  have ec4 := c4.c1
  have lc4 := c4.lt
  clear hb5
  go_wp2_with fail
  clear dc1 ec1 lc1
  clear dc2 ec2 lc2
  clear dc3 ec3 lc3
  clear dc4 ec4 lc4
  refine calls_world (fun W => Glob W ∧ Below w.heap.size w W ∧ Cell2 W (w.heap.size) (.int .i64 m1) (.int .i64 e1) ∧ Cell2 W (w.heap.size + 1) (.int .i64 m2) (.int .i64 e2) ∧ Cell2 W (w.heap.size + 1 + 1) (.int .i64 m3) (.int .i64 e3) ∧ Cell2 W W4.heap.size (.int .i64 d) (.int .i64 f) ∧ Cell2 W W5.heap.size (.int .i64 p1) (.int .i64 p2)) ⟨hg.alloc _, up B (al1 _ _), c1.alloc _, c2.alloc _, c3.alloc _, c4.alloc _, Cell2.new _ _ _ _⟩ ?_
  clear hg B c1 c2 c3 c4
  rintro W ⟨hg, B, c1, c2, c3, c4, c5⟩
  have dc1 := c1.c0
  have ec1 := c1.c1
  have lc1 := c1.lt
  have dc2 := c2.c0
  have ec2 := c2.c1
  have lc2 := c2.lt
  have dc3 := c3.c0
  have ec3 := c3.c1
  have lc3 := c3.lt
  have dc4 := c4.c0
  have ec4 := c4.c1
  have lc4 := c4.lt
  have dc5 := c5.c0
  have ec5 := c5.c1
  have lc5 := c5.lt
  refine (num_add m2 e2 m3 e3 hm2 hm3 _ hg).mono ?_
  rw [HQ.out]
  simp only [numRes]
  rintro r W6 ⟨rfl, hb6⟩
  replace hg := hg.below hb6
  replace B := up B hb6
  clear dc1 ec1 lc1
  replace c1 := c1.below hb6
  clear dc2 ec2 lc2
  replace c2 := c2.below hb6
  clear dc3 ec3 lc3
  replace c3 := c3.below hb6
  clear dc4 ec4 lc4
  replace c4 := c4.below hb6
  clear dc5 ec5 lc5
  replace c5 := c5.below hb6
  have dc1 := c1.c0
  have ec1 := c1.c1
  have lc1 := c1.lt
  have dc2 := c2.c0
  have ec2 := c2.c1
  have lc2 := c2.lt
  have dc3 := c3.c0
  have ec3 := c3.c1
  have lc3 := c3.lt
  have dc4 := c4.c0
  have ec4 := c4.c1
  have lc4 := c4.lt
  have dc5 := c5.c0
  have ec5 := c5.c1
  have lc5 := c5.lt
  clear hb6
  go_wp2
  go_ret
  exact ⟨rfl, up B (al1 _ _)⟩

set_option maxRecDepth 100000 in
theorem order_n1C (m1 e1 m2 e2 m3 e3 : Int) (hm1 : I64 m1) (hm2 : I64 m2) (hm3 : I64 m3) (h1 : cmpN m1 e1 m2 e2 = ((-1), 0)) (h2 : cmpN m2 e2 m1 e1 = (1, 0)) (hs : (m1 == m2 && e1 == e2) = false) (d f g : Int) (hS : subN m1 e1 m2 e2 = ((d, f), g)) (hg0 : g = 0) (hd : d < 0) (p1 p2 pr q1 q2 qr : Int) (hP : addN m1 e1 m3 e3 = ((p1, p2), pr)) (hQ : addN m2 e2 m3 e3 = ((q1, q2), qr)) (hp : pr = 0) (hq : qr = 0) (hC : cmpN p1 p2 q1 q2 = ((-1), 0)) (hp1 : I64 p1) (hq1 : I64 q1) (w : World) (hg : Glob w) :
    Calls Tryd.prog 13 #[.agg #[.int .i64 m1, .int .i64 e1], .agg #[.int .i64 m2, .int .i64 e2], .agg #[.int .i64 m3, .int .i64 e3]] w fun r w' => r = .returned (.bool true) ∧ Below w.heap.size w w' := by
  subst hg0
  subst hp
  subst hq
  have H1 := Keep.mk h1
  clear h1
  have H2 := Keep.mk h2
  clear h2
  have HS := Keep.mk hS
  clear hS
  have HP := Keep.mk hP
  clear hP
  have HQ := Keep.mk hQ
  clear hQ
  have HC := Keep.mk hC
  clear hC
  go_enter Tryd.func13, Tryd.ntmps13
  go_wp2_with fail
  refine calls_world (fun W => Glob W ∧ Below w.heap.size w W ∧ Cell2 W (w.heap.size) (.int .i64 m1) (.int .i64 e1) ∧ Cell2 W (w.heap.size + 1) (.int .i64 m2) (.int .i64 e2) ∧ Cell2 W (w.heap.size + 1 + 1) (.int .i64 m3) (.int .i64 e3)) ⟨hg.below (al3 w _ _ _), al3 w _ _ _, (((Cell2.newAt (by simp)).alloc _).alloc _), ((Cell2.newAt (by simp)).alloc _), (Cell2.newAt (by simp))⟩ ?_
  clear hg
  rintro W ⟨hg, B, c1, c2, c3⟩
  have dc1 := c1.c0
  have ec1 := c1.c1
  have lc1 := c1.lt
  have dc2 := c2.c0
  have ec2 := c2.c1
  have lc2 := c2.lt
  have dc3 := c3.c0
  have ec3 := c3.c1
  have lc3 := c3.lt
  refine (num_works _ hg).mono ?_
  rintro r W1 ⟨rfl, hb1⟩
  replace hg := hg.below hb1
  replace B := up B hb1
  clear dc1 ec1 lc1
  replace c1 := c1.below hb1
  clear dc2 ec2 lc2
  replace c2 := c2.below hb1
  clear dc3 ec3 lc3
  replace c3 := c3.below hb1
  have dc1 := c1.c0
  have ec1 := c1.c1
  have lc1 := c1.lt
  have dc2 := c2.c0
  have ec2 := c2.c1
  have lc2 := c2.lt
  have dc3 := c3.c0
  have ec3 := c3.c1
  have lc3 := c3.lt
  clear hb1
  go_wp2_with fail
  refine (num_cmp m1 e1 m2 e2 hm1 hm2 _ hg).mono ?_
  rw [H1.out]
  unfold cmpRes
  rintro r W2 ⟨rfl, hb2⟩
  replace hg := hg.below hb2
  replace B := up B hb2
  clear dc1 ec1 lc1
  replace c1 := c1.below hb2
  clear dc2 ec2 lc2
  replace c2 := c2.below hb2
  clear dc3 ec3 lc3
  replace c3 := c3.below hb2
  have dc1 := c1.c0
  have ec1 := c1.c1
  have lc1 := c1.lt
  have dc2 := c2.c0
  have ec2 := c2.c1
  have lc2 := c2.lt
  have dc3 := c3.c0
  have ec3 := c3.c1
  have lc3 := c3.lt
  clear hb2
  go_wp2_with fail
  refine (num_cmp m2 e2 m1 e1 hm2 hm1 _ hg).mono ?_
  rw [H2.out]
  unfold cmpRes
  rintro r W3 ⟨rfl, hb3⟩
  replace hg := hg.below hb3
  replace B := up B hb3
  clear dc1 ec1 lc1
  replace c1 := c1.below hb3
  clear dc2 ec2 lc2
  replace c2 := c2.below hb3
  clear dc3 ec3 lc3
  replace c3 := c3.below hb3
  have dc1 := c1.c0
  have ec1 := c1.c1
  have lc1 := c1.lt
  have dc2 := c2.c0
  have ec2 := c2.c1
  have lc2 := c2.lt
  have dc3 := c3.c0
  have ec3 := c3.c1
  have lc3 := c3.lt
  clear hb3
  go_wp2_with fail
  refine (num_sub m1 e1 m2 e2 hm1 hm2 _ hg).mono ?_
  rw [HS.out]
  simp only [numRes]
  rintro r W4 ⟨rfl, hb4⟩
  replace hg := hg.below hb4
  replace B := up B hb4
  clear dc1 ec1 lc1
  replace c1 := c1.below hb4
  clear dc2 ec2 lc2
  replace c2 := c2.below hb4
  clear dc3 ec3 lc3
  replace c3 := c3.below hb4
  have dc1 := c1.c0
  have ec1 := c1.c1
  have lc1 := c1.lt
  have dc2 := c2.c0
  have ec2 := c2.c1
  have lc2 := c2.lt
  have dc3 := c3.c0
  have ec3 := c3.c1
  have lc3 := c3.lt
  clear hb4
  go_wp2_with fail
  clear dc1 ec1 lc1
  clear dc2 ec2 lc2
  clear dc3 ec3 lc3
  refine calls_world (fun W => Glob W ∧ Below w.heap.size w W ∧ Cell2 W (w.heap.size) (.int .i64 m1) (.int .i64 e1) ∧ Cell2 W (w.heap.size + 1) (.int .i64 m2) (.int .i64 e2) ∧ Cell2 W (w.heap.size + 1 + 1) (.int .i64 m3) (.int .i64 e3) ∧ Cell2 W W4.heap.size (.int .i64 d) (.int .i64 f)) ⟨hg.alloc _, up B (al1 _ _), c1.alloc _, c2.alloc _, c3.alloc _, Cell2.new _ _ _ _⟩ ?_
  clear hg B c1 c2 c3
  rintro W ⟨hg, B, c1, c2, c3, c4⟩
  have dc1 := c1.c0
  have ec1 := c1.c1
  have lc1 := c1.lt
  have dc2 := c2.c0
  have ec2 := c2.c1
  have lc2 := c2.lt
  have dc3 := c3.c0
  have ec3 := c3.c1
  have lc3 := c3.lt
  have dc4 := c4.c0
  have ec4 := c4.c1
  have lc4 := c4.lt
  refine (num_add m1 e1 m3 e3 hm1 hm3 _ hg).mono ?_
  rw [HP.out]
  simp only [numRes]
  rintro r W5 ⟨rfl, hb5⟩
  replace hg := hg.below hb5
  replace B := up B hb5
  clear dc1 ec1 lc1
  replace c1 := c1.below hb5
  clear dc2 ec2 lc2
  replace c2 := c2.below hb5
  clear dc3 ec3 lc3
  replace c3 := c3.below hb5
  clear dc4 ec4 lc4
  replace c4 := c4.below hb5
  have dc1 := c1.c0
  have ec1 := c1.c1
  have lc1 := c1.lt
  have dc2 := c2.c0
  have ec2 := c2.c1
  have lc2 := c2.lt
  have dc3 := c3.c0
  have ec3 := c3.c1
  have lc3 := c3.lt
  have dc4 := c4.c0
  have ec4 := c4.c1
  have lc4 := c4.lt
  clear hb5
  go_wp2_with fail
  clear dc1 ec1 lc1
  clear dc2 ec2 lc2
  clear dc3 ec3 lc3
  clear dc4 ec4 lc4
  refine calls_world (fun W => Glob W ∧ Below w.heap.size w W ∧ Cell2 W (w.heap.size) (.int .i64 m1) (.int .i64 e1) ∧ Cell2 W (w.heap.size + 1) (.int .i64 m2) (.int .i64 e2) ∧ Cell2 W (w.heap.size + 1 + 1) (.int .i64 m3) (.int .i64 e3) ∧ Cell2 W W4.heap.size (.int .i64 d) (.int .i64 f) ∧ Cell2 W W5.heap.size (.int .i64 p1) (.int .i64 p2)) ⟨hg.alloc _, up B (al1 _ _), c1.alloc _, c2.alloc _, c3.alloc _, c4.alloc _, Cell2.new _ _ _ _⟩ ?_
  clear hg B c1 c2 c3 c4
  rintro W ⟨hg, B, c1, c2, c3, c4, c5⟩
  have dc1 := c1.c0
  have ec1 := c1.c1
  have lc1 := c1.lt
  have dc2 := c2.c0
  have ec2 := c2.c1
  have lc2 := c2.lt
  have dc3 := c3.c0
  have ec3 := c3.c1
  have lc3 := c3.lt
  have dc4 := c4.c0
  have ec4 := c4.c1
  have lc4 := c4.lt
  have dc5 := c5.c0
  have ec5 := c5.c1
  have lc5 := c5.lt
  refine (num_add m2 e2 m3 e3 hm2 hm3 _ hg).mono ?_
  rw [HQ.out]
  simp only [numRes]
  rintro r W6 ⟨rfl, hb6⟩
  replace hg := hg.below hb6
  replace B := up B hb6
  clear dc1 ec1 lc1
  replace c1 := c1.below hb6
  clear dc2 ec2 lc2
  replace c2 := c2.below hb6
  clear dc3 ec3 lc3
  replace c3 := c3.below hb6
  clear dc4 ec4 lc4
  replace c4 := c4.below hb6
  clear dc5 ec5 lc5
  replace c5 := c5.below hb6
  have dc1 := c1.c0
  have ec1 := c1.c1
  have lc1 := c1.lt
  have dc2 := c2.c0
  have ec2 := c2.c1
  have lc2 := c2.lt
  have dc3 := c3.c0
  have ec3 := c3.c1
  have lc3 := c3.lt
  have dc4 := c4.c0
  have ec4 := c4.c1
  have lc4 := c4.lt
  have dc5 := c5.c0
  have ec5 := c5.c1
  have lc5 := c5.lt
  clear hb6
  go_wp2_with fail
  clear dc1 ec1 lc1
  clear dc2 ec2 lc2
  clear dc3 ec3 lc3
  clear dc4 ec4 lc4
  clear dc5 ec5 lc5
  refine calls_world (fun W => Glob W ∧ Below w.heap.size w W ∧ Cell2 W (w.heap.size) (.int .i64 m1) (.int .i64 e1) ∧ Cell2 W (w.heap.size + 1) (.int .i64 m2) (.int .i64 e2) ∧ Cell2 W (w.heap.size + 1 + 1) (.int .i64 m3) (.int .i64 e3) ∧ Cell2 W W4.heap.size (.int .i64 d) (.int .i64 f) ∧ Cell2 W W5.heap.size (.int .i64 p1) (.int .i64 p2) ∧ Cell2 W W6.heap.size (.int .i64 q1) (.int .i64 q2)) ⟨hg.alloc _, up B (al1 _ _), c1.alloc _, c2.alloc _, c3.alloc _, c4.alloc _, c5.alloc _, Cell2.new _ _ _ _⟩ ?_
  clear hg B c1 c2 c3 c4 c5
  rintro W ⟨hg, B, c1, c2, c3, c4, c5, c6⟩
  have dc1 := c1.c0
  have ec1 := c1.c1
  have lc1 := c1.lt
  have dc2 := c2.c0
  have ec2 := c2.c1
  have lc2 := c2.lt
  have dc3 := c3.c0
  have ec3 := c3.c1
  have lc3 := c3.lt
  have dc4 := c4.c0
  have ec4 := c4.c1
  have lc4 := c4.lt
  have dc5 := c5.c0
  have ec5 := c5.c1
  have lc5 := c5.lt
  have dc6 := c6.c0
  have ec6 := c6.c1
  have lc6 := c6.lt
  refine (num_cmp p1 p2 q1 q2 hp1 hq1 _ hg).mono ?_
  rw [HC.out]
  unfold cmpRes
  rintro r W7 ⟨rfl, hb7⟩
  replace hg := hg.below hb7
  replace B := up B hb7
  clear dc1 ec1 lc1
  replace c1 := c1.below hb7
  clear dc2 ec2 lc2
  replace c2 := c2.below hb7
  clear dc3 ec3 lc3
  replace c3 := c3.below hb7
  clear dc4 ec4 lc4
  replace c4 := c4.below hb7
  clear dc5 ec5 lc5
  replace c5 := c5.below hb7
  clear dc6 ec6 lc6
  replace c6 := c6.below hb7
  have dc1 := c1.c0
  have ec1 := c1.c1
  have lc1 := c1.lt
  have dc2 := c2.c0
  have ec2 := c2.c1
  have lc2 := c2.lt
  have dc3 := c3.c0
  have ec3 := c3.c1
  have lc3 := c3.lt
  have dc4 := c4.c0
  have ec4 := c4.c1
  have lc4 := c4.lt
  have dc5 := c5.c0
  have ec5 := c5.c1
  have lc5 := c5.lt
  have dc6 := c6.c0
  have ec6 := c6.c1
  have lc6 := c6.lt
  clear hb7
  go_wp2
  go_ret
  exact ⟨rfl, B⟩

set_option maxRecDepth 100000 in
theorem order_z0A (m1 e1 m2 e2 m3 e3 : Int) (hm1 : I64 m1) (hm2 : I64 m2) (hm3 : I64 m3) (h1 : cmpN m1 e1 m2 e2 = (0, 0)) (h2 : cmpN m2 e2 m1 e1 = (0, 0)) (hs : m1 = m2 ∧ e1 = e2) (d f g : Int) (hS : subN m1 e1 m2 e2 = ((d, f), g)) (hg0 : (g == 0) = false) (p1 p2 pr q1 q2 qr : Int) (hP : addN m1 e1 m3 e3 = ((p1, p2), pr)) (hQ : addN m2 e2 m3 e3 = ((q1, q2), qr)) (hp : (pr != 0) = true) (w : World) (hg : Glob w) :
    Calls Tryd.prog 13 #[.agg #[.int .i64 m1, .int .i64 e1], .agg #[.int .i64 m2, .int .i64 e2], .agg #[.int .i64 m3, .int .i64 e3]] w fun r w' => r = .returned (.bool true) ∧ Below w.heap.size w w' := by
  obtain ⟨rfl, rfl⟩ := hs
  have H1 := Keep.mk h1
  clear h1
  have H2 := Keep.mk h2
  clear h2
  have HS := Keep.mk hS
  clear hS
  have HP := Keep.mk hP
  clear hP
  have HQ := Keep.mk hQ
  clear hQ
  go_enter Tryd.func13, Tryd.ntmps13
  go_wp2_with fail
  refine calls_world (fun W => Glob W ∧ Below w.heap.size w W ∧ Cell2 W (w.heap.size) (.int .i64 m1) (.int .i64 e1) ∧ Cell2 W (w.heap.size + 1) (.int .i64 m1) (.int .i64 e1) ∧ Cell2 W (w.heap.size + 1 + 1) (.int .i64 m3) (.int .i64 e3)) ⟨hg.below (al3 w _ _ _), al3 w _ _ _, (((Cell2.newAt (by simp)).alloc _).alloc _), ((Cell2.newAt (by simp)).alloc _), (Cell2.newAt (by simp))⟩ ?_
  clear hg
  rintro W ⟨hg, B, c1, c2, c3⟩
  have dc1 := c1.c0
  have ec1 := c1.c1
  have lc1 := c1.lt
  have dc2 := c2.c0
  have ec2 := c2.c1
  have lc2 := c2.lt
  have dc3 := c3.c0
  have ec3 := c3.c1
  have lc3 := c3.lt
  refine (num_works _ hg).mono ?_
  rintro r W1 ⟨rfl, hb1⟩
  replace hg := hg.below hb1
  replace B := up B hb1
  clear dc1 ec1 lc1
  replace c1 := c1.below hb1
  clear dc2 ec2 lc2
  replace c2 := c2.below hb1
  clear dc3 ec3 lc3
  replace c3 := c3.below hb1
  have dc1 := c1.c0
  have ec1 := c1.c1
  have lc1 := c1.lt
  have dc2 := c2.c0
  have ec2 := c2.c1
  have lc2 := c2.lt
  have dc3 := c3.c0
  have ec3 := c3.c1
  have lc3 := c3.lt
  clear hb1
  go_wp2_with fail
  refine (num_cmp m1 e1 m1 e1 hm1 hm1 _ hg).mono ?_
  rw [H1.out]
  unfold cmpRes
  rintro r W2 ⟨rfl, hb2⟩
  replace hg := hg.below hb2
  replace B := up B hb2
  clear dc1 ec1 lc1
  replace c1 := c1.below hb2
  clear dc2 ec2 lc2
  replace c2 := c2.below hb2
  clear dc3 ec3 lc3
  replace c3 := c3.below hb2
  have dc1 := c1.c0
  have ec1 := c1.c1
  have lc1 := c1.lt
  have dc2 := c2.c0
  have ec2 := c2.c1
  have lc2 := c2.lt
  have dc3 := c3.c0
  have ec3 := c3.c1
  have lc3 := c3.lt
  clear hb2
  go_wp2_with fail
  refine (num_cmp m1 e1 m1 e1 hm1 hm1 _ hg).mono ?_
  rw [H2.out]
  unfold cmpRes
  rintro r W3 ⟨rfl, hb3⟩
  replace hg := hg.below hb3
  replace B := up B hb3
  clear dc1 ec1 lc1
  replace c1 := c1.below hb3
  clear dc2 ec2 lc2
  replace c2 := c2.below hb3
  clear dc3 ec3 lc3
  replace c3 := c3.below hb3
  have dc1 := c1.c0
  have ec1 := c1.c1
  have lc1 := c1.lt
  have dc2 := c2.c0
  have ec2 := c2.c1
  have lc2 := c2.lt
  have dc3 := c3.c0
  have ec3 := c3.c1
  have lc3 := c3.lt
  clear hb3
  go_wp2_with fail
  refine (num_sub m1 e1 m1 e1 hm1 hm1 _ hg).mono ?_
  rw [HS.out]
  simp only [numRes]
  rintro r W4 ⟨rfl, hb4⟩
  replace hg := hg.below hb4
  replace B := up B hb4
  clear dc1 ec1 lc1
  replace c1 := c1.below hb4
  clear dc2 ec2 lc2
  replace c2 := c2.below hb4
  clear dc3 ec3 lc3
  replace c3 := c3.below hb4
  have dc1 := c1.c0
  have ec1 := c1.c1
  have lc1 := c1.lt
  have dc2 := c2.c0
  have ec2 := c2.c1
  have lc2 := c2.lt
  have dc3 := c3.c0
  have ec3 := c3.c1
  have lc3 := c3.lt
  clear hb4
  go_wp2_with fail
  clear dc1 ec1 lc1
  clear dc2 ec2 lc2
  clear dc3 ec3 lc3
  refine calls_world (fun W => Glob W ∧ Below w.heap.size w W ∧ Cell2 W (w.heap.size) (.int .i64 m1) (.int .i64 e1) ∧ Cell2 W (w.heap.size + 1) (.int .i64 m1) (.int .i64 e1) ∧ Cell2 W (w.heap.size + 1 + 1) (.int .i64 m3) (.int .i64 e3) ∧ Cell2 W W4.heap.size (.int .i64 d) (.int .i64 f)) ⟨hg.alloc _, up B (al1 _ _), c1.alloc _, c2.alloc _, c3.alloc _, Cell2.new _ _ _ _⟩ ?_
  clear hg B c1 c2 c3
  rintro W ⟨hg, B, c1, c2, c3, c4⟩
  have dc1 := c1.c0
  have ec1 := c1.c1
  have lc1 := c1.lt
  have dc2 := c2.c0
  have ec2 := c2.c1
  have lc2 := c2.lt
  have dc3 := c3.c0
  have ec3 := c3.c1
  have lc3 := c3.lt
  have dc4 := c4.c0
  have ec4 := c4.c1
  have lc4 := c4.lt
  refine (num_add m1 e1 m3 e3 hm1 hm3 _ hg).mono ?_
  rw [HP.out]
  simp only [numRes]
  rintro r W5 ⟨rfl, hb5⟩
  replace hg := hg.below hb5
  replace B := up B hb5
  clear dc1 ec1 lc1
  replace c1 := c1.below hb5
  clear dc2 ec2 lc2
  replace c2 := c2.below hb5
  clear dc3 ec3 lc3
  replace c3 := c3.below hb5
  clear dc4 ec4 lc4
  replace c4 := c4.below hb5
  have dc1 := c1.c0
  have ec1 := c1.c1
  have lc1 := c1.lt
  have dc2 := c2.c0
  have ec2 := c2.c1
  have lc2 := c2.lt
  have dc3 := c3.c0
  have ec3 := c3.c1
  have lc3 := c3.lt
  have dc4 := c4.c0
  have ec4 := c4.c1
  have lc4 := c4.lt
  clear hb5
  go_wp2_with fail
  clear dc1 ec1 lc1
  clear dc2 ec2 lc2
  clear dc3 ec3 lc3
  clear dc4 ec4 lc4
  refine calls_world (fun W => Glob W ∧ Below w.heap.size w W ∧ Cell2 W (w.heap.size) (.int .i64 m1) (.int .i64 e1) ∧ Cell2 W (w.heap.size + 1) (.int .i64 m1) (.int .i64 e1) ∧ Cell2 W (w.heap.size + 1 + 1) (.int .i64 m3) (.int .i64 e3) ∧ Cell2 W W4.heap.size (.int .i64 d) (.int .i64 f) ∧ Cell2 W W5.heap.size (.int .i64 p1) (.int .i64 p2)) ⟨hg.alloc _, up B (al1 _ _), c1.alloc _, c2.alloc _, c3.alloc _, c4.alloc _, Cell2.new _ _ _ _⟩ ?_
  clear hg B c1 c2 c3 c4
  rintro W ⟨hg, B, c1, c2, c3, c4, c5⟩
  have dc1 := c1.c0
  have ec1 := c1.c1
  have lc1 := c1.lt
  have dc2 := c2.c0
  have ec2 := c2.c1
  have lc2 := c2.lt
  have dc3 := c3.c0
  have ec3 := c3.c1
  have lc3 := c3.lt
  have dc4 := c4.c0
  have ec4 := c4.c1
  have lc4 := c4.lt
  have dc5 := c5.c0
  have ec5 := c5.c1
  have lc5 := c5.lt
  refine (num_add m1 e1 m3 e3 hm1 hm3 _ hg).mono ?_
  rw [HQ.out]
  simp only [numRes]
  rintro r W6 ⟨rfl, hb6⟩
  replace hg := hg.below hb6
  replace B := up B hb6
  clear dc1 ec1 lc1
  replace c1 := c1.below hb6
  clear dc2 ec2 lc2
  replace c2 := c2.below hb6
  clear dc3 ec3 lc3
  replace c3 := c3.below hb6
  clear dc4 ec4 lc4
  replace c4 := c4.below hb6
  clear dc5 ec5 lc5
  replace c5 := c5.below hb6
  have dc1 := c1.c0
  have ec1 := c1.c1
  have lc1 := c1.lt
  have dc2 := c2.c0
  have ec2 := c2.c1
  have lc2 := c2.lt
  have dc3 := c3.c0
  have ec3 := c3.c1
  have lc3 := c3.lt
  have dc4 := c4.c0
  have ec4 := c4.c1
  have lc4 := c4.lt
  have dc5 := c5.c0
  have ec5 := c5.c1
  have lc5 := c5.lt
  clear hb6
  go_wp2
  go_ret
  exact ⟨rfl, up B (al1 _ _)⟩

set_option maxRecDepth 100000 in
theorem order_z0B (m1 e1 m2 e2 m3 e3 : Int) (hm1 : I64 m1) (hm2 : I64 m2) (hm3 : I64 m3) (h1 : cmpN m1 e1 m2 e2 = (0, 0)) (h2 : cmpN m2 e2 m1 e1 = (0, 0)) (hs : m1 = m2 ∧ e1 = e2) (d f g : Int) (hS : subN m1 e1 m2 e2 = ((d, f), g)) (hg0 : (g == 0) = false) (p1 p2 pr q1 q2 qr : Int) (hP : addN m1 e1 m3 e3 = ((p1, p2), pr)) (hQ : addN m2 e2 m3 e3 = ((q1, q2), qr)) (hp : pr = 0) (hq : (qr != 0) = true) (w : World) (hg : Glob w) :
    Calls Tryd.prog 13 #[.agg #[.int .i64 m1, .int .i64 e1], .agg #[.int .i64 m2, .int .i64 e2], .agg #[.int .i64 m3, .int .i64 e3]] w fun r w' => r = .returned (.bool true) ∧ Below w.heap.size w w' := by
  obtain ⟨rfl, rfl⟩ := hs
  subst hp
  have H1 := Keep.mk h1
  clear h1
  have H2 := Keep.mk h2
  clear h2
  have HS := Keep.mk hS
  clear hS
  have HP := Keep.mk hP
  clear hP
  have HQ := Keep.mk hQ
  clear hQ
  go_enter Tryd.func13, Tryd.ntmps13
  go_wp2_with fail
  refine calls_world (fun W => Glob W ∧ Below w.heap.size w W ∧ Cell2 W (w.heap.size) (.int .i64 m1) (.int .i64 e1) ∧ Cell2 W (w.heap.size + 1) (.int .i64 m1) (.int .i64 e1) ∧ Cell2 W (w.heap.size + 1 + 1) (.int .i64 m3) (.int .i64 e3)) ⟨hg.below (al3 w _ _ _), al3 w _ _ _, (((Cell2.newAt (by simp)).alloc _).alloc _), ((Cell2.newAt (by simp)).alloc _), (Cell2.newAt (by simp))⟩ ?_
  clear hg
  rintro W ⟨hg, B, c1, c2, c3⟩
  have dc1 := c1.c0
  have ec1 := c1.c1
  have lc1 := c1.lt
  have dc2 := c2.c0
  have ec2 := c2.c1
  have lc2 := c2.lt
  have dc3 := c3.c0
  have ec3 := c3.c1
  have lc3 := c3.lt
  refine (num_works _ hg).mono ?_
  rintro r W1 ⟨rfl, hb1⟩
  replace hg := hg.below hb1
  replace B := up B hb1
  clear dc1 ec1 lc1
  replace c1 := c1.below hb1
  clear dc2 ec2 lc2
  replace c2 := c2.below hb1
  clear dc3 ec3 lc3
  replace c3 := c3.below hb1
  have dc1 := c1.c0
  have ec1 := c1.c1
  have lc1 := c1.lt
  have dc2 := c2.c0
  have ec2 := c2.c1
  have lc2 := c2.lt
  have dc3 := c3.c0
  have ec3 := c3.c1
  have lc3 := c3.lt
  clear hb1
  go_wp2_with fail
  refine (num_cmp m1 e1 m1 e1 hm1 hm1 _ hg).mono ?_
  rw [H1.out]
  unfold cmpRes
  rintro r W2 ⟨rfl, hb2⟩
  replace hg := hg.below hb2
  replace B := up B hb2
  clear dc1 ec1 lc1
  replace c1 := c1.below hb2
  clear dc2 ec2 lc2
  replace c2 := c2.below hb2
  clear dc3 ec3 lc3
  replace c3 := c3.below hb2
  have dc1 := c1.c0
  have ec1 := c1.c1
  have lc1 := c1.lt
  have dc2 := c2.c0
  have ec2 := c2.c1
  have lc2 := c2.lt
  have dc3 := c3.c0
  have ec3 := c3.c1
  have lc3 := c3.lt
  clear hb2
  go_wp2_with fail
  refine (num_cmp m1 e1 m1 e1 hm1 hm1 _ hg).mono ?_
  rw [H2.out]
  unfold cmpRes
  rintro r W3 ⟨rfl, hb3⟩
  replace hg := hg.below hb3
  replace B := up B hb3
  clear dc1 ec1 lc1
  replace c1 := c1.below hb3
  clear dc2 ec2 lc2
  replace c2 := c2.below hb3
  clear dc3 ec3 lc3
  replace c3 := c3.below hb3
  have dc1 := c1.c0
  have ec1 := c1.c1
  have lc1 := c1.lt
  have dc2 := c2.c0
  have ec2 := c2.c1
  have lc2 := c2.lt
  have dc3 := c3.c0
  have ec3 := c3.c1
  have lc3 := c3.lt
  clear hb3
  go_wp2_with fail
  refine (num_sub m1 e1 m1 e1 hm1 hm1 _ hg).mono ?_
  rw [HS.out]
  simp only [numRes]
  rintro r W4 ⟨rfl, hb4⟩
  replace hg := hg.below hb4
  replace B := up B hb4
  clear dc1 ec1 lc1
  replace c1 := c1.below hb4
  clear dc2 ec2 lc2
  replace c2 := c2.below hb4
  clear dc3 ec3 lc3
  replace c3 := c3.below hb4
  have dc1 := c1.c0
  have ec1 := c1.c1
  have lc1 := c1.lt
  have dc2 := c2.c0
  have ec2 := c2.c1
  have lc2 := c2.lt
  have dc3 := c3.c0
  have ec3 := c3.c1
  have lc3 := c3.lt
  clear hb4
  go_wp2_with fail
  clear dc1 ec1 lc1
  clear dc2 ec2 lc2
  clear dc3 ec3 lc3
  refine calls_world (fun W => Glob W ∧ Below w.heap.size w W ∧ Cell2 W (w.heap.size) (.int .i64 m1) (.int .i64 e1) ∧ Cell2 W (w.heap.size + 1) (.int .i64 m1) (.int .i64 e1) ∧ Cell2 W (w.heap.size + 1 + 1) (.int .i64 m3) (.int .i64 e3) ∧ Cell2 W W4.heap.size (.int .i64 d) (.int .i64 f)) ⟨hg.alloc _, up B (al1 _ _), c1.alloc _, c2.alloc _, c3.alloc _, Cell2.new _ _ _ _⟩ ?_
  clear hg B c1 c2 c3
  rintro W ⟨hg, B, c1, c2, c3, c4⟩
  have dc1 := c1.c0
  have ec1 := c1.c1
  have lc1 := c1.lt
  have dc2 := c2.c0
  have ec2 := c2.c1
  have lc2 := c2.lt
  have dc3 := c3.c0
  have ec3 := c3.c1
  have lc3 := c3.lt
  have dc4 := c4.c0
  have ec4 := c4.c1
  have lc4 := c4.lt
  refine (num_add m1 e1 m3 e3 hm1 hm3 _ hg).mono ?_
  rw [HP.out]
  simp only [numRes]
  rintro r W5 ⟨rfl, hb5⟩
  replace hg := hg.below hb5
  replace B := up B hb5
  clear dc1 ec1 lc1
  replace c1 := c1.below hb5
  clear dc2 ec2 lc2
  replace c2 := c2.below hb5
  clear dc3 ec3 lc3
  replace c3 := c3.below hb5
  clear dc4 ec4 lc4
  replace c4 := c4.below hb5
  have dc1 := c1.c0
  have ec1 := c1.c1
  have lc1 := c1.lt
  have dc2 := c2.c0
  have ec2 := c2.c1
  have lc2 := c2.lt
  have dc3 := c3.c0
  have ec3 := c3.c1
  have lc3 := c3.lt
  have dc4 := c4.c0
  have ec4 := c4.c1
  have lc4 := c4.lt
  clear hb5
  go_wp2_with fail
  clear dc1 ec1 lc1
  clear dc2 ec2 lc2
  clear dc3 ec3 lc3
  clear dc4 ec4 lc4
  refine calls_world (fun W => Glob W ∧ Below w.heap.size w W ∧ Cell2 W (w.heap.size) (.int .i64 m1) (.int .i64 e1) ∧ Cell2 W (w.heap.size + 1) (.int .i64 m1) (.int .i64 e1) ∧ Cell2 W (w.heap.size + 1 + 1) (.int .i64 m3) (.int .i64 e3) ∧ Cell2 W W4.heap.size (.int .i64 d) (.int .i64 f) ∧ Cell2 W W5.heap.size (.int .i64 p1) (.int .i64 p2)) ⟨hg.alloc _, up B (al1 _ _), c1.alloc _, c2.alloc _, c3.alloc _, c4.alloc _, Cell2.new _ _ _ _⟩ ?_
  clear hg B c1 c2 c3 c4
  rintro W ⟨hg, B, c1, c2, c3, c4, c5⟩
  have dc1 := c1.c0
  have ec1 := c1.c1
  have lc1 := c1.lt
  have dc2 := c2.c0
  have ec2 := c2.c1
  have lc2 := c2.lt
  have dc3 := c3.c0
  have ec3 := c3.c1
  have lc3 := c3.lt
  have dc4 := c4.c0
  have ec4 := c4.c1
  have lc4 := c4.lt
  have dc5 := c5.c0
  have ec5 := c5.c1
  have lc5 := c5.lt
  refine (num_add m1 e1 m3 e3 hm1 hm3 _ hg).mono ?_
  rw [HQ.out]
  simp only [numRes]
  rintro r W6 ⟨rfl, hb6⟩
  replace hg := hg.below hb6
  replace B := up B hb6
  clear dc1 ec1 lc1
  replace c1 := c1.below hb6
  clear dc2 ec2 lc2
  replace c2 := c2.below hb6
  clear dc3 ec3 lc3
  replace c3 := c3.below hb6
  clear dc4 ec4 lc4
  replace c4 := c4.below hb6
  clear dc5 ec5 lc5
  replace c5 := c5.below hb6
  have dc1 := c1.c0
  have ec1 := c1.c1
  have lc1 := c1.lt
  have dc2 := c2.c0
  have ec2 := c2.c1
  have lc2 := c2.lt
  have dc3 := c3.c0
  have ec3 := c3.c1
  have lc3 := c3.lt
  have dc4 := c4.c0
  have ec4 := c4.c1
  have lc4 := c4.lt
  have dc5 := c5.c0
  have ec5 := c5.c1
  have lc5 := c5.lt
  clear hb6
  go_wp2
  go_ret
  exact ⟨rfl, up B (al1 _ _)⟩

set_option maxRecDepth 100000 in
theorem order_z0C (m1 e1 m2 e2 m3 e3 : Int) (hm1 : I64 m1) (hm2 : I64 m2) (hm3 : I64 m3) (h1 : cmpN m1 e1 m2 e2 = (0, 0)) (h2 : cmpN m2 e2 m1 e1 = (0, 0)) (hs : m1 = m2 ∧ e1 = e2) (d f g : Int) (hS : subN m1 e1 m2 e2 = ((d, f), g)) (hg0 : (g == 0) = false) (p1 p2 pr q1 q2 qr : Int) (hP : addN m1 e1 m3 e3 = ((p1, p2), pr)) (hQ : addN m2 e2 m3 e3 = ((q1, q2), qr)) (hp : pr = 0) (hq : qr = 0) (hC : cmpN p1 p2 q1 q2 = (0, 0)) (hp1 : I64 p1) (hq1 : I64 q1) (w : World) (hg : Glob w) :
    Calls Tryd.prog 13 #[.agg #[.int .i64 m1, .int .i64 e1], .agg #[.int .i64 m2, .int .i64 e2], .agg #[.int .i64 m3, .int .i64 e3]] w fun r w' => r = .returned (.bool true) ∧ Below w.heap.size w w' := by
  obtain ⟨rfl, rfl⟩ := hs
  subst hp
  subst hq
  have H1 := Keep.mk h1
  clear h1
  have H2 := Keep.mk h2
  clear h2
  have HS := Keep.mk hS
  clear hS
  have HP := Keep.mk hP
  clear hP
  have HQ := Keep.mk hQ
  clear hQ
  have HC := Keep.mk hC
  clear hC
  go_enter Tryd.func13, Tryd.ntmps13
  go_wp2_with fail
  refine calls_world (fun W => Glob W ∧ Below w.heap.size w W ∧ Cell2 W (w.heap.size) (.int .i64 m1) (.int .i64 e1) ∧ Cell2 W (w.heap.size + 1) (.int .i64 m1) (.int .i64 e1) ∧ Cell2 W (w.heap.size + 1 + 1) (.int .i64 m3) (.int .i64 e3)) ⟨hg.below (al3 w _ _ _), al3 w _ _ _, (((Cell2.newAt (by simp)).alloc _).alloc _), ((Cell2.newAt (by simp)).alloc _), (Cell2.newAt (by simp))⟩ ?_
  clear hg
  rintro W ⟨hg, B, c1, c2, c3⟩
  have dc1 := c1.c0
  have ec1 := c1.c1
  have lc1 := c1.lt
  have dc2 := c2.c0
  have ec2 := c2.c1
  have lc2 := c2.lt
  have dc3 := c3.c0
  have ec3 := c3.c1
  have lc3 := c3.lt
  refine (num_works _ hg).mono ?_
  rintro r W1 ⟨rfl, hb1⟩
  replace hg := hg.below hb1
  replace B := up B hb1
  clear dc1 ec1 lc1
  replace c1 := c1.below hb1
  clear dc2 ec2 lc2
  replace c2 := c2.below hb1
  clear dc3 ec3 lc3
  replace c3 := c3.below hb1
  have dc1 := c1.c0
  have ec1 := c1.c1
  have lc1 := c1.lt
  have dc2 := c2.c0
  have ec2 := c2.c1
  have lc2 := c2.lt
  have dc3 := c3.c0
  have ec3 := c3.c1
  have lc3 := c3.lt
  clear hb1
  go_wp2_with fail
  refine (num_cmp m1 e1 m1 e1 hm1 hm1 _ hg).mono ?_
  rw [H1.out]
  unfold cmpRes
  rintro r W2 ⟨rfl, hb2⟩
  replace hg := hg.below hb2
  replace B := up B hb2
  clear dc1 ec1 lc1
  replace c1 := c1.below hb2
  clear dc2 ec2 lc2
  replace c2 := c2.below hb2
  clear dc3 ec3 lc3
  replace c3 := c3.below hb2
  have dc1 := c1.c0
  have ec1 := c1.c1
  have lc1 := c1.lt
  have dc2 := c2.c0
  have ec2 := c2.c1
  have lc2 := c2.lt
  have dc3 := c3.c0
  have ec3 := c3.c1
  have lc3 := c3.lt
  clear hb2
  go_wp2_with fail
  refine (num_cmp m1 e1 m1 e1 hm1 hm1 _ hg).mono ?_
  rw [H2.out]
  unfold cmpRes
  rintro r W3 ⟨rfl, hb3⟩
  replace hg := hg.below hb3
  replace B := up B hb3
  clear dc1 ec1 lc1
  replace c1 := c1.below hb3
  clear dc2 ec2 lc2
  replace c2 := c2.below hb3
  clear dc3 ec3 lc3
  replace c3 := c3.below hb3
  have dc1 := c1.c0
  have ec1 := c1.c1
  have lc1 := c1.lt
  have dc2 := c2.c0
  have ec2 := c2.c1
  have lc2 := c2.lt
  have dc3 := c3.c0
  have ec3 := c3.c1
  have lc3 := c3.lt
  clear hb3
  go_wp2_with fail
  refine (num_sub m1 e1 m1 e1 hm1 hm1 _ hg).mono ?_
  rw [HS.out]
  simp only [numRes]
  rintro r W4 ⟨rfl, hb4⟩
  replace hg := hg.below hb4
  replace B := up B hb4
  clear dc1 ec1 lc1
  replace c1 := c1.below hb4
  clear dc2 ec2 lc2
  replace c2 := c2.below hb4
  clear dc3 ec3 lc3
  replace c3 := c3.below hb4
  have dc1 := c1.c0
  have ec1 := c1.c1
  have lc1 := c1.lt
  have dc2 := c2.c0
  have ec2 := c2.c1
  have lc2 := c2.lt
  have dc3 := c3.c0
  have ec3 := c3.c1
  have lc3 := c3.lt
  clear hb4
  go_wp2_with fail
  clear dc1 ec1 lc1
  clear dc2 ec2 lc2
  clear dc3 ec3 lc3
  refine calls_world (fun W => Glob W ∧ Below w.heap.size w W ∧ Cell2 W (w.heap.size) (.int .i64 m1) (.int .i64 e1) ∧ Cell2 W (w.heap.size + 1) (.int .i64 m1) (.int .i64 e1) ∧ Cell2 W (w.heap.size + 1 + 1) (.int .i64 m3) (.int .i64 e3) ∧ Cell2 W W4.heap.size (.int .i64 d) (.int .i64 f)) ⟨hg.alloc _, up B (al1 _ _), c1.alloc _, c2.alloc _, c3.alloc _, Cell2.new _ _ _ _⟩ ?_
  clear hg B c1 c2 c3
  rintro W ⟨hg, B, c1, c2, c3, c4⟩
  have dc1 := c1.c0
  have ec1 := c1.c1
  have lc1 := c1.lt
  have dc2 := c2.c0
  have ec2 := c2.c1
  have lc2 := c2.lt
  have dc3 := c3.c0
  have ec3 := c3.c1
  have lc3 := c3.lt
  have dc4 := c4.c0
  have ec4 := c4.c1
  have lc4 := c4.lt
  refine (num_add m1 e1 m3 e3 hm1 hm3 _ hg).mono ?_
  rw [HP.out]
  simp only [numRes]
  rintro r W5 ⟨rfl, hb5⟩
  replace hg := hg.below hb5
  replace B := up B hb5
  clear dc1 ec1 lc1
  replace c1 := c1.below hb5
  clear dc2 ec2 lc2
  replace c2 := c2.below hb5
  clear dc3 ec3 lc3
  replace c3 := c3.below hb5
  clear dc4 ec4 lc4
  replace c4 := c4.below hb5
  have dc1 := c1.c0
  have ec1 := c1.c1
  have lc1 := c1.lt
  have dc2 := c2.c0
  have ec2 := c2.c1
  have lc2 := c2.lt
  have dc3 := c3.c0
  have ec3 := c3.c1
  have lc3 := c3.lt
  have dc4 := c4.c0
  have ec4 := c4.c1
  have lc4 := c4.lt
  clear hb5
  go_wp2_with fail
  clear dc1 ec1 lc1
  clear dc2 ec2 lc2
  clear dc3 ec3 lc3
  clear dc4 ec4 lc4
  refine calls_world (fun W => Glob W ∧ Below w.heap.size w W ∧ Cell2 W (w.heap.size) (.int .i64 m1) (.int .i64 e1) ∧ Cell2 W (w.heap.size + 1) (.int .i64 m1) (.int .i64 e1) ∧ Cell2 W (w.heap.size + 1 + 1) (.int .i64 m3) (.int .i64 e3) ∧ Cell2 W W4.heap.size (.int .i64 d) (.int .i64 f) ∧ Cell2 W W5.heap.size (.int .i64 p1) (.int .i64 p2)) ⟨hg.alloc _, up B (al1 _ _), c1.alloc _, c2.alloc _, c3.alloc _, c4.alloc _, Cell2.new _ _ _ _⟩ ?_
  clear hg B c1 c2 c3 c4
  rintro W ⟨hg, B, c1, c2, c3, c4, c5⟩
  have dc1 := c1.c0
  have ec1 := c1.c1
  have lc1 := c1.lt
  have dc2 := c2.c0
  have ec2 := c2.c1
  have lc2 := c2.lt
  have dc3 := c3.c0
  have ec3 := c3.c1
  have lc3 := c3.lt
  have dc4 := c4.c0
  have ec4 := c4.c1
  have lc4 := c4.lt
  have dc5 := c5.c0
  have ec5 := c5.c1
  have lc5 := c5.lt
  refine (num_add m1 e1 m3 e3 hm1 hm3 _ hg).mono ?_
  rw [HQ.out]
  simp only [numRes]
  rintro r W6 ⟨rfl, hb6⟩
  replace hg := hg.below hb6
  replace B := up B hb6
  clear dc1 ec1 lc1
  replace c1 := c1.below hb6
  clear dc2 ec2 lc2
  replace c2 := c2.below hb6
  clear dc3 ec3 lc3
  replace c3 := c3.below hb6
  clear dc4 ec4 lc4
  replace c4 := c4.below hb6
  clear dc5 ec5 lc5
  replace c5 := c5.below hb6
  have dc1 := c1.c0
  have ec1 := c1.c1
  have lc1 := c1.lt
  have dc2 := c2.c0
  have ec2 := c2.c1
  have lc2 := c2.lt
  have dc3 := c3.c0
  have ec3 := c3.c1
  have lc3 := c3.lt
  have dc4 := c4.c0
  have ec4 := c4.c1
  have lc4 := c4.lt
  have dc5 := c5.c0
  have ec5 := c5.c1
  have lc5 := c5.lt
  clear hb6
  go_wp2_with fail
  clear dc1 ec1 lc1
  clear dc2 ec2 lc2
  clear dc3 ec3 lc3
  clear dc4 ec4 lc4
  clear dc5 ec5 lc5
  refine calls_world (fun W => Glob W ∧ Below w.heap.size w W ∧ Cell2 W (w.heap.size) (.int .i64 m1) (.int .i64 e1) ∧ Cell2 W (w.heap.size + 1) (.int .i64 m1) (.int .i64 e1) ∧ Cell2 W (w.heap.size + 1 + 1) (.int .i64 m3) (.int .i64 e3) ∧ Cell2 W W4.heap.size (.int .i64 d) (.int .i64 f) ∧ Cell2 W W5.heap.size (.int .i64 p1) (.int .i64 p2) ∧ Cell2 W W6.heap.size (.int .i64 q1) (.int .i64 q2)) ⟨hg.alloc _, up B (al1 _ _), c1.alloc _, c2.alloc _, c3.alloc _, c4.alloc _, c5.alloc _, Cell2.new _ _ _ _⟩ ?_
  clear hg B c1 c2 c3 c4 c5
  rintro W ⟨hg, B, c1, c2, c3, c4, c5, c6⟩
  have dc1 := c1.c0
  have ec1 := c1.c1
  have lc1 := c1.lt
  have dc2 := c2.c0
  have ec2 := c2.c1
  have lc2 := c2.lt
  have dc3 := c3.c0
  have ec3 := c3.c1
  have lc3 := c3.lt
  have dc4 := c4.c0
  have ec4 := c4.c1
  have lc4 := c4.lt
  have dc5 := c5.c0
  have ec5 := c5.c1
  have lc5 := c5.lt
  have dc6 := c6.c0
  have ec6 := c6.c1
  have lc6 := c6.lt
  refine (num_cmp p1 p2 q1 q2 hp1 hq1 _ hg).mono ?_
  rw [HC.out]
  unfold cmpRes
  rintro r W7 ⟨rfl, hb7⟩
  replace hg := hg.below hb7
  replace B := up B hb7
  clear dc1 ec1 lc1
  replace c1 := c1.below hb7
  clear dc2 ec2 lc2
  replace c2 := c2.below hb7
  clear dc3 ec3 lc3
  replace c3 := c3.below hb7
  clear dc4 ec4 lc4
  replace c4 := c4.below hb7
  clear dc5 ec5 lc5
  replace c5 := c5.below hb7
  clear dc6 ec6 lc6
  replace c6 := c6.below hb7
  have dc1 := c1.c0
  have ec1 := c1.c1
  have lc1 := c1.lt
  have dc2 := c2.c0
  have ec2 := c2.c1
  have lc2 := c2.lt
  have dc3 := c3.c0
  have ec3 := c3.c1
  have lc3 := c3.lt
  have dc4 := c4.c0
  have ec4 := c4.c1
  have lc4 := c4.lt
  have dc5 := c5.c0
  have ec5 := c5.c1
  have lc5 := c5.lt
  have dc6 := c6.c0
  have ec6 := c6.c1
  have lc6 := c6.lt
  clear hb7
  go_wp2
  go_ret
  exact ⟨rfl, B⟩

set_option maxRecDepth 100000 in
theorem order_z1A (m1 e1 m2 e2 m3 e3 : Int) (hm1 : I64 m1) (hm2 : I64 m2) (hm3 : I64 m3) (h1 : cmpN m1 e1 m2 e2 = (0, 0)) (h2 : cmpN m2 e2 m1 e1 = (0, 0)) (hs : m1 = m2 ∧ e1 = e2) (d f g : Int) (hS : subN m1 e1 m2 e2 = ((d, f), g)) (hg0 : g = 0) (hd : ¬ d < 0) (p1 p2 pr q1 q2 qr : Int) (hP : addN m1 e1 m3 e3 = ((p1, p2), pr)) (hQ : addN m2 e2 m3 e3 = ((q1, q2), qr)) (hp : (pr != 0) = true) (w : World) (hg : Glob w) :
    Calls Tryd.prog 13 #[.agg #[.int .i64 m1, .int .i64 e1], .agg #[.int .i64 m2, .int .i64 e2], .agg #[.int .i64 m3, .int .i64 e3]] w fun r w' => r = .returned (.bool true) ∧ Below w.heap.size w w' := by
  obtain ⟨rfl, rfl⟩ := hs
  subst hg0
  have H1 := Keep.mk h1
  clear h1
  have H2 := Keep.mk h2
  clear h2
  have HS := Keep.mk hS
  clear hS
  have HP := Keep.mk hP
  clear hP
  have HQ := Keep.mk hQ
  clear hQ
  go_enter Tryd.func13, Tryd.ntmps13
  go_wp2_with fail
  refine calls_world (fun W => Glob W ∧ Below w.heap.size w W ∧ Cell2 W (w.heap.size) (.int .i64 m1) (.int .i64 e1) ∧ Cell2 W (w.heap.size + 1) (.int .i64 m1) (.int .i64 e1) ∧ Cell2 W (w.heap.size + 1 + 1) (.int .i64 m3) (.int .i64 e3)) ⟨hg.below (al3 w _ _ _), al3 w _ _ _, (((Cell2.newAt (by simp)).alloc _).alloc _), ((Cell2.newAt (by simp)).alloc _), (Cell2.newAt (by simp))⟩ ?_
  clear hg
  rintro W ⟨hg, B, c1, c2, c3⟩
  have dc1 := c1.c0
  have ec1 := c1.c1
  have lc1 := c1.lt
  have dc2 := c2.c0
  have ec2 := c2.c1
  have lc2 := c2.lt
  have dc3 := c3.c0
  have ec3 := c3.c1
  have lc3 := c3.lt
  refine (num_works _ hg).mono ?_
  rintro r W1 ⟨rfl, hb1⟩
  replace hg := hg.below hb1
  replace B := up B hb1
  clear dc1 ec1 lc1
  replace c1 := c1.below hb1
  clear dc2 ec2 lc2
  replace c2 := c2.below hb1
  clear dc3 ec3 lc3
  replace c3 := c3.below hb1
  have dc1 := c1.c0
  have ec1 := c1.c1
  have lc1 := c1.lt
  have dc2 := c2.c0
  have ec2 := c2.c1
  have lc2 := c2.lt
  have dc3 := c3.c0
  have ec3 := c3.c1
  have lc3 := c3.lt
  clear hb1
  go_wp2_with fail
  refine (num_cmp m1 e1 m1 e1 hm1 hm1 _ hg).mono ?_
  rw [H1.out]
  unfold cmpRes
  rintro r W2 ⟨rfl, hb2⟩
  replace hg := hg.below hb2
  replace B := up B hb2
  clear dc1 ec1 lc1
  replace c1 := c1.below hb2
  clear dc2 ec2 lc2
  replace c2 := c2.below hb2
  clear dc3 ec3 lc3
  replace c3 := c3.below hb2
  have dc1 := c1.c0
  have ec1 := c1.c1
  have lc1 := c1.lt
  have dc2 := c2.c0
  have ec2 := c2.c1
  have lc2 := c2.lt
  have dc3 := c3.c0
  have ec3 := c3.c1
  have lc3 := c3.lt
  clear hb2
  go_wp2_with fail
  refine (num_cmp m1 e1 m1 e1 hm1 hm1 _ hg).mono ?_
  rw [H2.out]
  unfold cmpRes
  rintro r W3 ⟨rfl, hb3⟩
  replace hg := hg.below hb3
  replace B := up B hb3
  clear dc1 ec1 lc1
  replace c1 := c1.below hb3
  clear dc2 ec2 lc2
  replace c2 := c2.below hb3
  clear dc3 ec3 lc3
  replace c3 := c3.below hb3
  have dc1 := c1.c0
  have ec1 := c1.c1
  have lc1 := c1.lt
  have dc2 := c2.c0
  have ec2 := c2.c1
  have lc2 := c2.lt
  have dc3 := c3.c0
  have ec3 := c3.c1
  have lc3 := c3.lt
  clear hb3
  go_wp2_with fail
  refine (num_sub m1 e1 m1 e1 hm1 hm1 _ hg).mono ?_
  rw [HS.out]
  simp only [numRes]
  rintro r W4 ⟨rfl, hb4⟩
  replace hg := hg.below hb4
  replace B := up B hb4
  clear dc1 ec1 lc1
  replace c1 := c1.below hb4
  clear dc2 ec2 lc2
  replace c2 := c2.below hb4
  clear dc3 ec3 lc3
  replace c3 := c3.below hb4
  have dc1 := c1.c0
  have ec1 := c1.c1
  have lc1 := c1.lt
  have dc2 := c2.c0
  have ec2 := c2.c1
  have lc2 := c2.lt
  have dc3 := c3.c0
  have ec3 := c3.c1
  have lc3 := c3.lt
  clear hb4
  go_wp2_with fail
  clear dc1 ec1 lc1
  clear dc2 ec2 lc2
  clear dc3 ec3 lc3
  refine calls_world (fun W => Glob W ∧ Below w.heap.size w W ∧ Cell2 W (w.heap.size) (.int .i64 m1) (.int .i64 e1) ∧ Cell2 W (w.heap.size + 1) (.int .i64 m1) (.int .i64 e1) ∧ Cell2 W (w.heap.size + 1 + 1) (.int .i64 m3) (.int .i64 e3) ∧ Cell2 W W4.heap.size (.int .i64 d) (.int .i64 f)) ⟨hg.alloc _, up B (al1 _ _), c1.alloc _, c2.alloc _, c3.alloc _, Cell2.new _ _ _ _⟩ ?_
  clear hg B c1 c2 c3
  rintro W ⟨hg, B, c1, c2, c3, c4⟩
  have dc1 := c1.c0
  have ec1 := c1.c1
  have lc1 := c1.lt
  have dc2 := c2.c0
  have ec2 := c2.c1
  have lc2 := c2.lt
  have dc3 := c3.c0
  have ec3 := c3.c1
  have lc3 := c3.lt
  have dc4 := c4.c0
  have ec4 := c4.c1
  have lc4 := c4.lt
  refine (num_add m1 e1 m3 e3 hm1 hm3 _ hg).mono ?_
  rw [HP.out]
  simp only [numRes]
  rintro r W5 ⟨rfl, hb5⟩
  replace hg := hg.below hb5
  replace B := up B hb5
  clear dc1 ec1 lc1
  replace c1 := c1.below hb5
  clear dc2 ec2 lc2
  replace c2 := c2.below hb5
  clear dc3 ec3 lc3
  replace c3 := c3.below hb5
  clear dc4 ec4 lc4
  replace c4 := c4.below hb5
  have dc1 := c1.c0
  have ec1 := c1.c1
  have lc1 := c1.lt
  have dc2 := c2.c0
  have ec2 := c2.c1
  have lc2 := c2.lt
  have dc3 := c3.c0
  have ec3 := c3.c1
  have lc3 := c3.lt
  have dc4 := c4.c0
  have ec4 := c4.c1
  have lc4 := c4.lt
  clear hb5
  go_wp2_with fail
  clear dc1 ec1 lc1
  clear dc2 ec2 lc2
  clear dc3 ec3 lc3
  clear dc4 ec4 lc4
  refine calls_world (fun W => Glob W ∧ Below w.heap.size w W ∧ Cell2 W (w.heap.size) (.int .i64 m1) (.int .i64 e1) ∧ Cell2 W (w.heap.size + 1) (.int .i64 m1) (.int .i64 e1) ∧ Cell2 W (w.heap.size + 1 + 1) (.int .i64 m3) (.int .i64 e3) ∧ Cell2 W W4.heap.size (.int .i64 d) (.int .i64 f) ∧ Cell2 W W5.heap.size (.int .i64 p1) (.int .i64 p2)) ⟨hg.alloc _, up B (al1 _ _), c1.alloc _, c2.alloc _, c3.alloc _, c4.alloc _, Cell2.new _ _ _ _⟩ ?_
  clear hg B c1 c2 c3 c4
  rintro W ⟨hg, B, c1, c2, c3, c4, c5⟩
  have dc1 := c1.c0
  have ec1 := c1.c1
  have lc1 := c1.lt
  have dc2 := c2.c0
  have ec2 := c2.c1
  have lc2 := c2.lt
  have dc3 := c3.c0
  have ec3 := c3.c1
  have lc3 := c3.lt
  have dc4 := c4.c0
  have ec4 := c4.c1
  have lc4 := c4.lt
  have dc5 := c5.c0
  have ec5 := c5.c1
  have lc5 := c5.lt
  refine (num_add m1 e1 m3 e3 hm1 hm3 _ hg).mono ?_
  rw [HQ.out]
  simp only [numRes]
  rintro r W6 ⟨rfl, hb6⟩
  replace hg := hg.below hb6
  replace B := up B hb6
  clear dc1 ec1 lc1
  replace c1 := c1.below hb6
  clear dc2 ec2 lc2
  replace c2 := c2.below hb6
  clear dc3 ec3 lc3
  replace c3 := c3.below hb6
  clear dc4 ec4 lc4
  replace c4 := c4.below hb6
  clear dc5 ec5 lc5
  replace c5 := c5.below hb6
  have dc1 := c1.c0
  have ec1 := c1.c1
  have lc1 := c1.lt
  have dc2 := c2.c0
  have ec2 := c2.c1
  have lc2 := c2.lt
  have dc3 := c3.c0
  have ec3 := c3.c1
  have lc3 := c3.lt
  have dc4 := c4.c0
  have ec4 := c4.c1
  have lc4 := c4.lt
  have dc5 := c5.c0
  have ec5 := c5.c1
  have lc5 := c5.lt
  clear hb6
  go_wp2
  go_ret
  exact ⟨rfl, up B (al1 _ _)⟩

set_option maxRecDepth 100000 in
theorem order_z1B (m1 e1 m2 e2 m3 e3 : Int) (hm1 : I64 m1) (hm2 : I64 m2) (hm3 : I64 m3) (h1 : cmpN m1 e1 m2 e2 = (0, 0)) (h2 : cmpN m2 e2 m1 e1 = (0, 0)) (hs : m1 = m2 ∧ e1 = e2) (d f g : Int) (hS : subN m1 e1 m2 e2 = ((d, f), g)) (hg0 : g = 0) (hd : ¬ d < 0) (p1 p2 pr q1 q2 qr : Int) (hP : addN m1 e1 m3 e3 = ((p1, p2), pr)) (hQ : addN m2 e2 m3 e3 = ((q1, q2), qr)) (hp : pr = 0) (hq : (qr != 0) = true) (w : World) (hg : Glob w) :
    Calls Tryd.prog 13 #[.agg #[.int .i64 m1, .int .i64 e1], .agg #[.int .i64 m2, .int .i64 e2], .agg #[.int .i64 m3, .int .i64 e3]] w fun r w' => r = .returned (.bool true) ∧ Below w.heap.size w w' := by
  obtain ⟨rfl, rfl⟩ := hs
  subst hg0
  subst hp
  have H1 := Keep.mk h1
  clear h1
  have H2 := Keep.mk h2
  clear h2
  have HS := Keep.mk hS
  clear hS
  have HP := Keep.mk hP
  clear hP
  have HQ := Keep.mk hQ
  clear hQ
  go_enter Tryd.func13, Tryd.ntmps13
  go_wp2_with fail
  refine calls_world (fun W => Glob W ∧ Below w.heap.size w W ∧ Cell2 W (w.heap.size) (.int .i64 m1) (.int .i64 e1) ∧ Cell2 W (w.heap.size + 1) (.int .i64 m1) (.int .i64 e1) ∧ Cell2 W (w.heap.size + 1 + 1) (.int .i64 m3) (.int .i64 e3)) ⟨hg.below (al3 w _ _ _), al3 w _ _ _, (((Cell2.newAt (by simp)).alloc _).alloc _), ((Cell2.newAt (by simp)).alloc _), (Cell2.newAt (by simp))⟩ ?_
  clear hg
  rintro W ⟨hg, B, c1, c2, c3⟩
  have dc1 := c1.c0
  have ec1 := c1.c1
  have lc1 := c1.lt
  have dc2 := c2.c0
  have ec2 := c2.c1
  have lc2 := c2.lt
  have dc3 := c3.c0
  have ec3 := c3.c1
  have lc3 := c3.lt
  refine (num_works _ hg).mono ?_
  rintro r W1 ⟨rfl, hb1⟩
  replace hg := hg.below hb1
  replace B := up B hb1
  clear dc1 ec1 lc1
  replace c1 := c1.below hb1
  clear dc2 ec2 lc2
  replace c2 := c2.below hb1
  clear dc3 ec3 lc3
  replace c3 := c3.below hb1
  have dc1 := c1.c0
  have ec1 := c1.c1
  have lc1 := c1.lt
  have dc2 := c2.c0
  have ec2 := c2.c1
  have lc2 := c2.lt
  have dc3 := c3.c0
  have ec3 := c3.c1
  have lc3 := c3.lt
  clear hb1
  go_wp2_with fail
  refine (num_cmp m1 e1 m1 e1 hm1 hm1 _ hg).mono ?_
  rw [H1.out]
  unfold cmpRes
  rintro r W2 ⟨rfl, hb2⟩
  replace hg := hg.below hb2
  replace B := up B hb2
  clear dc1 ec1 lc1
  replace c1 := c1.below hb2
  clear dc2 ec2 lc2
  replace c2 := c2.below hb2
  clear dc3 ec3 lc3
  replace c3 := c3.below hb2
  have dc1 := c1.c0
  have ec1 := c1.c1
  have lc1 := c1.lt
  have dc2 := c2.c0
  have ec2 := c2.c1
  have lc2 := c2.lt
  have dc3 := c3.c0
  have ec3 := c3.c1
  have lc3 := c3.lt
  clear hb2
  go_wp2_with fail
  refine (num_cmp m1 e1 m1 e1 hm1 hm1 _ hg).mono ?_
  rw [H2.out]
  unfold cmpRes
  rintro r W3 ⟨rfl, hb3⟩
  replace hg := hg.below hb3
  replace B := up B hb3
  clear dc1 ec1 lc1
  replace c1 := c1.below hb3
  clear dc2 ec2 lc2
  replace c2 := c2.below hb3
  clear dc3 ec3 lc3
  replace c3 := c3.below hb3
  have dc1 := c1.c0
  have ec1 := c1.c1
  have lc1 := c1.lt
  have dc2 := c2.c0
  have ec2 := c2.c1
  have lc2 := c2.lt
  have dc3 := c3.c0
  have ec3 := c3.c1
  have lc3 := c3.lt
  clear hb3
  go_wp2_with fail
  refine (num_sub m1 e1 m1 e1 hm1 hm1 _ hg).mono ?_
  rw [HS.out]
  simp only [numRes]
  rintro r W4 ⟨rfl, hb4⟩
  replace hg := hg.below hb4
  replace B := up B hb4
  clear dc1 ec1 lc1
  replace c1 := c1.below hb4
  clear dc2 ec2 lc2
  replace c2 := c2.below hb4
  clear dc3 ec3 lc3
  replace c3 := c3.below hb4
  have dc1 := c1.c0
  have ec1 := c1.c1
  have lc1 := c1.lt
  have dc2 := c2.c0
  have ec2 := c2.c1
  have lc2 := c2.lt
  have dc3 := c3.c0
  have ec3 := c3.c1
  have lc3 := c3.lt
  clear hb4
  go_wp2_with fail
  clear dc1 ec1 lc1
  clear dc2 ec2 lc2
  clear dc3 ec3 lc3
  refine calls_world (fun W => Glob W ∧ Below w.heap.size w W ∧ Cell2 W (w.heap.size) (.int .i64 m1) (.int .i64 e1) ∧ Cell2 W (w.heap.size + 1) (.int .i64 m1) (.int .i64 e1) ∧ Cell2 W (w.heap.size + 1 + 1) (.int .i64 m3) (.int .i64 e3) ∧ Cell2 W W4.heap.size (.int .i64 d) (.int .i64 f)) ⟨hg.alloc _, up B (al1 _ _), c1.alloc _, c2.alloc _, c3.alloc _, Cell2.new _ _ _ _⟩ ?_
  clear hg B c1 c2 c3
  rintro W ⟨hg, B, c1, c2, c3, c4⟩
  have dc1 := c1.c0
  have ec1 := c1.c1
  have lc1 := c1.lt
  have dc2 := c2.c0
  have ec2 := c2.c1
  have lc2 := c2.lt
  have dc3 := c3.c0
  have ec3 := c3.c1
  have lc3 := c3.lt
  have dc4 := c4.c0
  have ec4 := c4.c1
  have lc4 := c4.lt
  refine (num_add m1 e1 m3 e3 hm1 hm3 _ hg).mono ?_
  rw [HP.out]
  simp only [numRes]
  rintro r W5 ⟨rfl, hb5⟩
  replace hg := hg.below hb5
  replace B := up B hb5
  clear dc1 ec1 lc1
  replace c1 := c1.below hb5
  clear dc2 ec2 lc2
  replace c2 := c2.below hb5
  clear dc3 ec3 lc3
  replace c3 := c3.below hb5
  clear dc4 ec4 lc4
  replace c4 := c4.below hb5
  have dc1 := c1.c0
  have ec1 := c1.c1
  have lc1 := c1.lt
  have dc2 := c2.c0
  have ec2 := c2.c1
  have lc2 := c2.lt
  have dc3 := c3.c0
  have ec3 := c3.c1
  have lc3 := c3.lt
  have dc4 := c4.c0
  have ec4 := c4.c1
  have lc4 := c4.lt
  clear hb5
  go_wp2_with fail
  clear dc1 ec1 lc1
  clear dc2 ec2 lc2
  clear dc3 ec3 lc3
  clear dc4 ec4 lc4
  refine calls_world (fun W => Glob W ∧ Below w.heap.size w W ∧ Cell2 W (w.heap.size) (.int .i64 m1) (.int .i64 e1) ∧ Cell2 W (w.heap.size + 1) (.int .i64 m1) (.int .i64 e1) ∧ Cell2 W (w.heap.size + 1 + 1) (.int .i64 m3) (.int .i64 e3) ∧ Cell2 W W4.heap.size (.int .i64 d) (.int .i64 f) ∧ Cell2 W W5.heap.size (.int .i64 p1) (.int .i64 p2)) ⟨hg.alloc _, up B (al1 _ _), c1.alloc _, c2.alloc _, c3.alloc _, c4.alloc _, Cell2.new _ _ _ _⟩ ?_
  clear hg B c1 c2 c3 c4
  rintro W ⟨hg, B, c1, c2, c3, c4, c5⟩
  have dc1 := c1.c0
  have ec1 := c1.c1
  have lc1 := c1.lt
  have dc2 := c2.c0
  have ec2 := c2.c1
  have lc2 := c2.lt
  have dc3 := c3.c0
  have ec3 := c3.c1
  have lc3 := c3.lt
  have dc4 := c4.c0
  have ec4 := c4.c1
  have lc4 := c4.lt
  have dc5 := c5.c0
  have ec5 := c5.c1
  have lc5 := c5.lt
  refine (num_add m1 e1 m3 e3 hm1 hm3 _ hg).mono ?_
  rw [HQ.out]
  simp only [numRes]
  rintro r W6 ⟨rfl, hb6⟩
  replace hg := hg.below hb6
  replace B := up B hb6
  clear dc1 ec1 lc1
  replace c1 := c1.below hb6
  clear dc2 ec2 lc2
  replace c2 := c2.below hb6
  clear dc3 ec3 lc3
  replace c3 := c3.below hb6
  clear dc4 ec4 lc4
  replace c4 := c4.below hb6
  clear dc5 ec5 lc5
  replace c5 := c5.below hb6
  have dc1 := c1.c0
  have ec1 := c1.c1
  have lc1 := c1.lt
  have dc2 := c2.c0
  have ec2 := c2.c1
  have lc2 := c2.lt
  have dc3 := c3.c0
  have ec3 := c3.c1
  have lc3 := c3.lt
  have dc4 := c4.c0
  have ec4 := c4.c1
  have lc4 := c4.lt
  have dc5 := c5.c0
  have ec5 := c5.c1
  have lc5 := c5.lt
  clear hb6
  go_wp2
  go_ret
  exact ⟨rfl, up B (al1 _ _)⟩

set_option maxRecDepth 100000 in
theorem order_z1C (m1 e1 m2 e2 m3 e3 : Int) (hm1 : I64 m1) (hm2 : I64 m2) (hm3 : I64 m3) (h1 : cmpN m1 e1 m2 e2 = (0, 0)) (h2 : cmpN m2 e2 m1 e1 = (0, 0)) (hs : m1 = m2 ∧ e1 = e2) (d f g : Int) (hS : subN m1 e1 m2 e2 = ((d, f), g)) (hg0 : g = 0) (hd : ¬ d < 0) (p1 p2 pr q1 q2 qr : Int) (hP : addN m1 e1 m3 e3 = ((p1, p2), pr)) (hQ : addN m2 e2 m3 e3 = ((q1, q2), qr)) (hp : pr = 0) (hq : qr = 0) (hC : cmpN p1 p2 q1 q2 = (0, 0)) (hp1 : I64 p1) (hq1 : I64 q1) (w : World) (hg : Glob w) :
    Calls Tryd.prog 13 #[.agg #[.int .i64 m1, .int .i64 e1], .agg #[.int .i64 m2, .int .i64 e2], .agg #[.int .i64 m3, .int .i64 e3]] w fun r w' => r = .returned (.bool true) ∧ Below w.heap.size w w' := by
  obtain ⟨rfl, rfl⟩ := hs
  subst hg0
  subst hp
  subst hq
  have H1 := Keep.mk h1
  clear h1
  have H2 := Keep.mk h2
  clear h2
  have HS := Keep.mk hS
  clear hS
  have HP := Keep.mk hP
  clear hP
  have HQ := Keep.mk hQ
  clear hQ
  have HC := Keep.mk hC
  clear hC
  go_enter Tryd.func13, Tryd.ntmps13
  go_wp2_with fail
  refine calls_world (fun W => Glob W ∧ Below w.heap.size w W ∧ Cell2 W (w.heap.size) (.int .i64 m1) (.int .i64 e1) ∧ Cell2 W (w.heap.size + 1) (.int .i64 m1) (.int .i64 e1) ∧ Cell2 W (w.heap.size + 1 + 1) (.int .i64 m3) (.int .i64 e3)) ⟨hg.below (al3 w _ _ _), al3 w _ _ _, (((Cell2.newAt (by simp)).alloc _).alloc _), ((Cell2.newAt (by simp)).alloc _), (Cell2.newAt (by simp))⟩ ?_
  clear hg
  rintro W ⟨hg, B, c1, c2, c3⟩
  have dc1 := c1.c0
  have ec1 := c1.c1
  have lc1 := c1.lt
  have dc2 := c2.c0
  have ec2 := c2.c1
  have lc2 := c2.lt
  have dc3 := c3.c0
  have ec3 := c3.c1
  have lc3 := c3.lt
  refine (num_works _ hg).mono ?_
  rintro r W1 ⟨rfl, hb1⟩
  replace hg := hg.below hb1
  replace B := up B hb1
  clear dc1 ec1 lc1
  replace c1 := c1.below hb1
  clear dc2 ec2 lc2
  replace c2 := c2.below hb1
  clear dc3 ec3 lc3
  replace c3 := c3.below hb1
  have dc1 := c1.c0
  have ec1 := c1.c1
  have lc1 := c1.lt
  have dc2 := c2.c0
  have ec2 := c2.c1
  have lc2 := c2.lt
  have dc3 := c3.c0
  have ec3 := c3.c1
  have lc3 := c3.lt
  clear hb1
  go_wp2_with fail
  refine (num_cmp m1 e1 m1 e1 hm1 hm1 _ hg).mono ?_
  rw [H1.out]
  unfold cmpRes
  rintro r W2 ⟨rfl, hb2⟩
  replace hg := hg.below hb2
  replace B := up B hb2
  clear dc1 ec1 lc1
  replace c1 := c1.below hb2
  clear dc2 ec2 lc2
  replace c2 := c2.below hb2
  clear dc3 ec3 lc3
  replace c3 := c3.below hb2
  have dc1 := c1.c0
  have ec1 := c1.c1
  have lc1 := c1.lt
  have dc2 := c2.c0
  have ec2 := c2.c1
  have lc2 := c2.lt
  have dc3 := c3.c0
  have ec3 := c3.c1
  have lc3 := c3.lt
  clear hb2
  go_wp2_with fail
  refine (num_cmp m1 e1 m1 e1 hm1 hm1 _ hg).mono ?_
  rw [H2.out]
  unfold cmpRes
  rintro r W3 ⟨rfl, hb3⟩
  replace hg := hg.below hb3
  replace B := up B hb3
  clear dc1 ec1 lc1
  replace c1 := c1.below hb3
  clear dc2 ec2 lc2
  replace c2 := c2.below hb3
  clear dc3 ec3 lc3
  replace c3 := c3.below hb3
  have dc1 := c1.c0
  have ec1 := c1.c1
  have lc1 := c1.lt
  have dc2 := c2.c0
  have ec2 := c2.c1
  have lc2 := c2.lt
  have dc3 := c3.c0
  have ec3 := c3.c1
  have lc3 := c3.lt
  clear hb3
  go_wp2_with fail
  refine (num_sub m1 e1 m1 e1 hm1 hm1 _ hg).mono ?_
  rw [HS.out]
  simp only [numRes]
  rintro r W4 ⟨rfl, hb4⟩
  replace hg := hg.below hb4
  replace B := up B hb4
  clear dc1 ec1 lc1
  replace c1 := c1.below hb4
  clear dc2 ec2 lc2
  replace c2 := c2.below hb4
  clear dc3 ec3 lc3
  replace c3 := c3.below hb4
  have dc1 := c1.c0
  have ec1 := c1.c1
  have lc1 := c1.lt
  have dc2 := c2.c0
  have ec2 := c2.c1
  have lc2 := c2.lt
  have dc3 := c3.c0
  have ec3 := c3.c1
  have lc3 := c3.lt
  clear hb4
  go_wp2_with fail
  clear dc1 ec1 lc1
  clear dc2 ec2 lc2
  clear dc3 ec3 lc3
  refine calls_world (fun W => Glob W ∧ Below w.heap.size w W ∧ Cell2 W (w.heap.size) (.int .i64 m1) (.int .i64 e1) ∧ Cell2 W (w.heap.size + 1) (.int .i64 m1) (.int .i64 e1) ∧ Cell2 W (w.heap.size + 1 + 1) (.int .i64 m3) (.int .i64 e3) ∧ Cell2 W W4.heap.size (.int .i64 d) (.int .i64 f)) ⟨hg.alloc _, up B (al1 _ _), c1.alloc _, c2.alloc _, c3.alloc _, Cell2.new _ _ _ _⟩ ?_
  clear hg B c1 c2 c3
  rintro W ⟨hg, B, c1, c2, c3, c4⟩
  have dc1 := c1.c0
  have ec1 := c1.c1
  have lc1 := c1.lt
  have dc2 := c2.c0
  have ec2 := c2.c1
  have lc2 := c2.lt
  have dc3 := c3.c0
  have ec3 := c3.c1
  have lc3 := c3.lt
  have dc4 := c4.c0
  have ec4 := c4.c1
  have lc4 := c4.lt
  refine (num_add m1 e1 m3 e3 hm1 hm3 _ hg).mono ?_
  rw [HP.out]
  simp only [numRes]
  rintro r W5 ⟨rfl, hb5⟩
  replace hg := hg.below hb5
  replace B := up B hb5
  clear dc1 ec1 lc1
  replace c1 := c1.below hb5
  clear dc2 ec2 lc2
  replace c2 := c2.below hb5
  clear dc3 ec3 lc3
  replace c3 := c3.below hb5
  clear dc4 ec4 lc4
  replace c4 := c4.below hb5
  have dc1 := c1.c0
  have ec1 := c1.c1
  have lc1 := c1.lt
  have dc2 := c2.c0
  have ec2 := c2.c1
  have lc2 := c2.lt
  have dc3 := c3.c0
  have ec3 := c3.c1
  have lc3 := c3.lt
  have dc4 := c4.c0
  have ec4 := c4.c1
  have lc4 := c4.lt
  clear hb5
  go_wp2_with fail
  clear dc1 ec1 lc1
  clear dc2 ec2 lc2
  clear dc3 ec3 lc3
  clear dc4 ec4 lc4
  refine calls_world (fun W => Glob W ∧ Below w.heap.size w W ∧ Cell2 W (w.heap.size) (.int .i64 m1) (.int .i64 e1) ∧ Cell2 W (w.heap.size + 1) (.int .i64 m1) (.int .i64 e1) ∧ Cell2 W (w.heap.size + 1 + 1) (.int .i64 m3) (.int .i64 e3) ∧ Cell2 W W4.heap.size (.int .i64 d) (.int .i64 f) ∧ Cell2 W W5.heap.size (.int .i64 p1) (.int .i64 p2)) ⟨hg.alloc _, up B (al1 _ _), c1.alloc _, c2.alloc _, c3.alloc _, c4.alloc _, Cell2.new _ _ _ _⟩ ?_
  clear hg B c1 c2 c3 c4
  rintro W ⟨hg, B, c1, c2, c3, c4, c5⟩
  have dc1 := c1.c0
  have ec1 := c1.c1
  have lc1 := c1.lt
  have dc2 := c2.c0
  have ec2 := c2.c1
  have lc2 := c2.lt
  have dc3 := c3.c0
  have ec3 := c3.c1
  have lc3 := c3.lt
  have dc4 := c4.c0
  have ec4 := c4.c1
  have lc4 := c4.lt
  have dc5 := c5.c0
  have ec5 := c5.c1
  have lc5 := c5.lt
  refine (num_add m1 e1 m3 e3 hm1 hm3 _ hg).mono ?_
  rw [HQ.out]
  simp only [numRes]
  rintro r W6 ⟨rfl, hb6⟩
  replace hg := hg.below hb6
  replace B := up B hb6
  clear dc1 ec1 lc1
  replace c1 := c1.below hb6
  clear dc2 ec2 lc2
  replace c2 := c2.below hb6
  clear dc3 ec3 lc3
  replace c3 := c3.below hb6
  clear dc4 ec4 lc4
  replace c4 := c4.below hb6
  clear dc5 ec5 lc5
  replace c5 := c5.below hb6
  have dc1 := c1.c0
  have ec1 := c1.c1
  have lc1 := c1.lt
  have dc2 := c2.c0
  have ec2 := c2.c1
  have lc2 := c2.lt
  have dc3 := c3.c0
  have ec3 := c3.c1
  have lc3 := c3.lt
  have dc4 := c4.c0
  have ec4 := c4.c1
  have lc4 := c4.lt
  have dc5 := c5.c0
  have ec5 := c5.c1
  have lc5 := c5.lt
  clear hb6
  go_wp2_with fail
  clear dc1 ec1 lc1
  clear dc2 ec2 lc2
  clear dc3 ec3 lc3
  clear dc4 ec4 lc4
  clear dc5 ec5 lc5
  refine calls_world (fun W => Glob W ∧ Below w.heap.size w W ∧ Cell2 W (w.heap.size) (.int .i64 m1) (.int .i64 e1) ∧ Cell2 W (w.heap.size + 1) (.int .i64 m1) (.int .i64 e1) ∧ Cell2 W (w.heap.size + 1 + 1) (.int .i64 m3) (.int .i64 e3) ∧ Cell2 W W4.heap.size (.int .i64 d) (.int .i64 f) ∧ Cell2 W W5.heap.size (.int .i64 p1) (.int .i64 p2) ∧ Cell2 W W6.heap.size (.int .i64 q1) (.int .i64 q2)) ⟨hg.alloc _, up B (al1 _ _), c1.alloc _, c2.alloc _, c3.alloc _, c4.alloc _, c5.alloc _, Cell2.new _ _ _ _⟩ ?_
  clear hg B c1 c2 c3 c4 c5
  rintro W ⟨hg, B, c1, c2, c3, c4, c5, c6⟩
  have dc1 := c1.c0
  have ec1 := c1.c1
  have lc1 := c1.lt
  have dc2 := c2.c0
  have ec2 := c2.c1
  have lc2 := c2.lt
  have dc3 := c3.c0
  have ec3 := c3.c1
  have lc3 := c3.lt
  have dc4 := c4.c0
  have ec4 := c4.c1
  have lc4 := c4.lt
  have dc5 := c5.c0
  have ec5 := c5.c1
  have lc5 := c5.lt
  have dc6 := c6.c0
  have ec6 := c6.c1
  have lc6 := c6.lt
  refine (num_cmp p1 p2 q1 q2 hp1 hq1 _ hg).mono ?_
  rw [HC.out]
  unfold cmpRes
  rintro r W7 ⟨rfl, hb7⟩
  replace hg := hg.below hb7
  replace B := up B hb7
  clear dc1 ec1 lc1
  replace c1 := c1.below hb7
  clear dc2 ec2 lc2
  replace c2 := c2.below hb7
  clear dc3 ec3 lc3
  replace c3 := c3.below hb7
  clear dc4 ec4 lc4
  replace c4 := c4.below hb7
  clear dc5 ec5 lc5
  replace c5 := c5.below hb7
  clear dc6 ec6 lc6
  replace c6 := c6.below hb7
  have dc1 := c1.c0
  have ec1 := c1.c1
  have lc1 := c1.lt
  have dc2 := c2.c0
  have ec2 := c2.c1
  have lc2 := c2.lt
  have dc3 := c3.c0
  have ec3 := c3.c1
  have lc3 := c3.lt
  have dc4 := c4.c0
  have ec4 := c4.c1
  have lc4 := c4.lt
  have dc5 := c5.c0
  have ec5 := c5.c1
  have lc5 := c5.lt
  have dc6 := c6.c0
  have ec6 := c6.c1
  have lc6 := c6.lt
  clear hb7
  go_wp2
  go_ret
  exact ⟨rfl, B⟩

set_option maxRecDepth 100000 in
theorem order_p0A (m1 e1 m2 e2 m3 e3 : Int) (hm1 : I64 m1) (hm2 : I64 m2) (hm3 : I64 m3) (h1 : cmpN m1 e1 m2 e2 = (1, 0)) (h2 : cmpN m2 e2 m1 e1 = ((-1), 0)) (hs : (m1 == m2 && e1 == e2) = false) (d f g : Int) (hS : subN m1 e1 m2 e2 = ((d, f), g)) (hg0 : (g == 0) = false) (p1 p2 pr q1 q2 qr : Int) (hP : addN m1 e1 m3 e3 = ((p1, p2), pr)) (hQ : addN m2 e2 m3 e3 = ((q1, q2), qr)) (hp : (pr != 0) = true) (w : World) (hg : Glob w) :
    Calls Tryd.prog 13 #[.agg #[.int .i64 m1, .int .i64 e1], .agg #[.int .i64 m2, .int .i64 e2], .agg #[.int .i64 m3, .int .i64 e3]] w fun r w' => r = .returned (.bool true) ∧ Below w.heap.size w w' := by
  have H1 := Keep.mk h1
  clear h1
  have H2 := Keep.mk h2
  clear h2
  have HS := Keep.mk hS
  clear hS
  have HP := Keep.mk hP
  clear hP
  have HQ := Keep.mk hQ
  clear hQ
  go_enter Tryd.func13, Tryd.ntmps13
  go_wp2_with fail
  refine calls_world (fun W => Glob W ∧ Below w.heap.size w W ∧ Cell2 W (w.heap.size) (.int .i64 m1) (.int .i64 e1) ∧ Cell2 W (w.heap.size + 1) (.int .i64 m2) (.int .i64 e2) ∧ Cell2 W (w.heap.size + 1 + 1) (.int .i64 m3) (.int .i64 e3)) ⟨hg.below (al3 w _ _ _), al3 w _ _ _, (((Cell2.newAt (by simp)).alloc _).alloc _), ((Cell2.newAt (by simp)).alloc _), (Cell2.newAt (by simp))⟩ ?_
  clear hg
  rintro W ⟨hg, B, c1, c2, c3⟩
  have dc1 := c1.c0
  have ec1 := c1.c1
  have lc1 := c1.lt
  have dc2 := c2.c0
  have ec2 := c2.c1
  have lc2 := c2.lt
  have dc3 := c3.c0
  have ec3 := c3.c1
  have lc3 := c3.lt
  refine (num_works _ hg).mono ?_
  rintro r W1 ⟨rfl, hb1⟩
  replace hg := hg.below hb1
  replace B := up B hb1
  clear dc1 ec1 lc1
  replace c1 := c1.below hb1
  clear dc2 ec2 lc2
  replace c2 := c2.below hb1
  clear dc3 ec3 lc3
  replace c3 := c3.below hb1
  have dc1 := c1.c0
  have ec1 := c1.c1
  have lc1 := c1.lt
  have dc2 := c2.c0
  have ec2 := c2.c1
  have lc2 := c2.lt
  have dc3 := c3.c0
  have ec3 := c3.c1
  have lc3 := c3.lt
  clear hb1
  go_wp2_with fail
  refine (num_cmp m1 e1 m2 e2 hm1 hm2 _ hg).mono ?_
  rw [H1.out]
  unfold cmpRes
  rintro r W2 ⟨rfl, hb2⟩
  replace hg := hg.below hb2
  replace B := up B hb2
  clear dc1 ec1 lc1
  replace c1 := c1.below hb2
  clear dc2 ec2 lc2
  replace c2 := c2.below hb2
  clear dc3 ec3 lc3
  replace c3 := c3.below hb2
  have dc1 := c1.c0
  have ec1 := c1.c1
  have lc1 := c1.lt
  have dc2 := c2.c0
  have ec2 := c2.c1
  have lc2 := c2.lt
  have dc3 := c3.c0
  have ec3 := c3.c1
  have lc3 := c3.lt
  clear hb2
  go_wp2_with fail
  refine (num_cmp m2 e2 m1 e1 hm2 hm1 _ hg).mono ?_
  rw [H2.out]
  unfold cmpRes
  rintro r W3 ⟨rfl, hb3⟩
  replace hg := hg.below hb3
  replace B := up B hb3
  clear dc1 ec1 lc1
  replace c1 := c1.below hb3
  clear dc2 ec2 lc2
  replace c2 := c2.below hb3
  clear dc3 ec3 lc3
  replace c3 := c3.below hb3
  have dc1 := c1.c0
  have ec1 := c1.c1
  have lc1 := c1.lt
  have dc2 := c2.c0
  have ec2 := c2.c1
  have lc2 := c2.lt
  have dc3 := c3.c0
  have ec3 := c3.c1
  have lc3 := c3.lt
  clear hb3
  go_wp2_with fail
  refine (num_sub m1 e1 m2 e2 hm1 hm2 _ hg).mono ?_
  rw [HS.out]
  simp only [numRes]
  rintro r W4 ⟨rfl, hb4⟩
  replace hg := hg.below hb4
  replace B := up B hb4
  clear dc1 ec1 lc1
  replace c1 := c1.below hb4
  clear dc2 ec2 lc2
  replace c2 := c2.below hb4
  clear dc3 ec3 lc3
  replace c3 := c3.below hb4
  have dc1 := c1.c0
  have ec1 := c1.c1
  have lc1 := c1.lt
  have dc2 := c2.c0
  have ec2 := c2.c1
  have lc2 := c2.lt
  have dc3 := c3.c0
  have ec3 := c3.c1
  have lc3 := c3.lt
  clear hb4
  go_wp2_with fail
  clear dc1 ec1 lc1
  clear dc2 ec2 lc2
  clear dc3 ec3 lc3
  refine calls_world (fun W => Glob W ∧ Below w.heap.size w W ∧ Cell2 W (w.heap.size) (.int .i64 m1) (.int .i64 e1) ∧ Cell2 W (w.heap.size + 1) (.int .i64 m2) (.int .i64 e2) ∧ Cell2 W (w.heap.size + 1 + 1) (.int .i64 m3) (.int .i64 e3) ∧ Cell2 W W4.heap.size (.int .i64 d) (.int .i64 f)) ⟨hg.alloc _, up B (al1 _ _), c1.alloc _, c2.alloc _, c3.alloc _, Cell2.new _ _ _ _⟩ ?_
  clear hg B c1 c2 c3
  rintro W ⟨hg, B, c1, c2, c3, c4⟩
  have dc1 := c1.c0
  have ec1 := c1.c1
  have lc1 := c1.lt
  have dc2 := c2.c0
  have ec2 := c2.c1
  have lc2 := c2.lt
  have dc3 := c3.c0
  have ec3 := c3.c1
  have lc3 := c3.lt
  have dc4 := c4.c0
  have ec4 := c4.c1
  have lc4 := c4.lt
  refine (num_add m1 e1 m3 e3 hm1 hm3 _ hg).mono ?_
  rw [HP.out]
  simp only [numRes]
  rintro r W5 ⟨rfl, hb5⟩
  replace hg := hg.below hb5
  replace B := up B hb5
  clear dc1 ec1 lc1
  replace c1 := c1.below hb5
  clear dc2 ec2 lc2
  replace c2 := c2.below hb5
  clear dc3 ec3 lc3
  replace c3 := c3.below hb5
  clear dc4 ec4 lc4
  replace c4 := c4.below hb5
  have dc1 := c1.c0
  have ec1 := c1.c1
  have lc1 := c1.lt
  have dc2 := c2.c0
  have ec2 := c2.c1
  have lc2 := c2.lt
  have dc3 := c3.c0
  have ec3 := c3.c1
  have lc3 := c3.lt
  have dc4 := c4.c0
  have ec4 := c4.c1
  have lc4 := c4.lt
  clear hb5
  go_wp2_with fail
  clear dc1 ec1 lc1
  clear dc2 ec2 lc2
  clear dc3 ec3 lc3
  clear dc4 ec4 lc4
  refine calls_world (fun W => Glob W ∧ Below w.heap.size w W ∧ Cell2 W (w.heap.size) (.int .i64 m1) (.int .i64 e1) ∧ Cell2 W (w.heap.size + 1) (.int .i64 m2) (.int .i64 e2) ∧ Cell2 W (w.heap.size + 1 + 1) (.int .i64 m3) (.int .i64 e3) ∧ Cell2 W W4.heap.size (.int .i64 d) (.int .i64 f) ∧ Cell2 W W5.heap.size (.int .i64 p1) (.int .i64 p2)) ⟨hg.alloc _, up B (al1 _ _), c1.alloc _, c2.alloc _, c3.alloc _, c4.alloc _, Cell2.new _ _ _ _⟩ ?_
  clear hg B c1 c2 c3 c4
  rintro W ⟨hg, B, c1, c2, c3, c4, c5⟩
  have dc1 := c1.c0
  have ec1 := c1.c1
  have lc1 := c1.lt
  have dc2 := c2.c0
  have ec2 := c2.c1
  have lc2 := c2.lt
  have dc3 := c3.c0
  have ec3 := c3.c1
  have lc3 := c3.lt
  have dc4 := c4.c0
  have ec4 := c4.c1
  have lc4 := c4.lt
  have dc5 := c5.c0
  have ec5 := c5.c1
  have lc5 := c5.lt
  refine (num_add m2 e2 m3 e3 hm2 hm3 _ hg).mono ?_
  rw [HQ.out]
  simp only [numRes]
  rintro r W6 ⟨rfl, hb6⟩
  replace hg := hg.below hb6
  replace B := up B hb6
  clear dc1 ec1 lc1
  replace c1 := c1.below hb6
  clear dc2 ec2 lc2
  replace c2 := c2.below hb6
  clear dc3 ec3 lc3
  replace c3 := c3.below hb6
  clear dc4 ec4 lc4
  replace c4 := c4.below hb6
  clear dc5 ec5 lc5
  replace c5 := c5.below hb6
  have dc1 := c1.c0
  have ec1 := c1.c1
  have lc1 := c1.lt
  have dc2 := c2.c0
  have ec2 := c2.c1
  have lc2 := c2.lt
  have dc3 := c3.c0
  have ec3 := c3.c1
  have lc3 := c3.lt
  have dc4 := c4.c0
  have ec4 := c4.c1
  have lc4 := c4.lt
  have dc5 := c5.c0
  have ec5 := c5.c1
  have lc5 := c5.lt
  clear hb6
  go_wp2
  go_ret
  exact ⟨rfl, up B (al1 _ _)⟩

set_option maxRecDepth 100000 in
theorem order_p0B (m1 e1 m2 e2 m3 e3 : Int) (hm1 : I64 m1) (hm2 : I64 m2) (hm3 : I64 m3) (h1 : cmpN m1 e1 m2 e2 = (1, 0)) (h2 : cmpN m2 e2 m1 e1 = ((-1), 0)) (hs : (m1 == m2 && e1 == e2) = false) (d f g : Int) (hS : subN m1 e1 m2 e2 = ((d, f), g)) (hg0 : (g == 0) = false) (p1 p2 pr q1 q2 qr : Int) (hP : addN m1 e1 m3 e3 = ((p1, p2), pr)) (hQ : addN m2 e2 m3 e3 = ((q1, q2), qr)) (hp : pr = 0) (hq : (qr != 0) = true) (w : World) (hg : Glob w) :
    Calls Tryd.prog 13 #[.agg #[.int .i64 m1, .int .i64 e1], .agg #[.int .i64 m2, .int .i64 e2], .agg #[.int .i64 m3, .int .i64 e3]] w fun r w' => r = .returned (.bool true) ∧ Below w.heap.size w w' := by
  subst hp
  have H1 := Keep.mk h1
  clear h1
  have H2 := Keep.mk h2
  clear h2
  have HS := Keep.mk hS
  clear hS
  have HP := Keep.mk hP
  clear hP
  have HQ := Keep.mk hQ
  clear hQ
  go_enter Tryd.func13, Tryd.ntmps13
  go_wp2_with fail
  refine calls_world (fun W => Glob W ∧ Below w.heap.size w W ∧ Cell2 W (w.heap.size) (.int .i64 m1) (.int .i64 e1) ∧ Cell2 W (w.heap.size + 1) (.int .i64 m2) (.int .i64 e2) ∧ Cell2 W (w.heap.size + 1 + 1) (.int .i64 m3) (.int .i64 e3)) ⟨hg.below (al3 w _ _ _), al3 w _ _ _, (((Cell2.newAt (by simp)).alloc _).alloc _), ((Cell2.newAt (by simp)).alloc _), (Cell2.newAt (by simp))⟩ ?_
  clear hg
  rintro W ⟨hg, B, c1, c2, c3⟩
  have dc1 := c1.c0
  have ec1 := c1.c1
  have lc1 := c1.lt
  have dc2 := c2.c0
  have ec2 := c2.c1
  have lc2 := c2.lt
  have dc3 := c3.c0
  have ec3 := c3.c1
  have lc3 := c3.lt
  refine (num_works _ hg).mono ?_
  rintro r W1 ⟨rfl, hb1⟩
  replace hg := hg.below hb1
  replace B := up B hb1
  clear dc1 ec1 lc1
  replace c1 := c1.below hb1
  clear dc2 ec2 lc2
  replace c2 := c2.below hb1
  clear dc3 ec3 lc3
  replace c3 := c3.below hb1
  have dc1 := c1.c0
  have ec1 := c1.c1
  have lc1 := c1.lt
  have dc2 := c2.c0
  have ec2 := c2.c1
  have lc2 := c2.lt
  have dc3 := c3.c0
  have ec3 := c3.c1
  have lc3 := c3.lt
  clear hb1
  go_wp2_with fail
  refine (num_cmp m1 e1 m2 e2 hm1 hm2 _ hg).mono ?_
  rw [H1.out]
  unfold cmpRes
  rintro r W2 ⟨rfl, hb2⟩
  replace hg := hg.below hb2
  replace B := up B hb2
  clear dc1 ec1 lc1
  replace c1 := c1.below hb2
  clear dc2 ec2 lc2
  replace c2 := c2.below hb2
  clear dc3 ec3 lc3
  replace c3 := c3.below hb2
  have dc1 := c1.c0
  have ec1 := c1.c1
  have lc1 := c1.lt
  have dc2 := c2.c0
  have ec2 := c2.c1
  have lc2 := c2.lt
  have dc3 := c3.c0
  have ec3 := c3.c1
  have lc3 := c3.lt
  clear hb2
  go_wp2_with fail
  refine (num_cmp m2 e2 m1 e1 hm2 hm1 _ hg).mono ?_
  rw [H2.out]
  unfold cmpRes
  rintro r W3 ⟨rfl, hb3⟩
  replace hg := hg.below hb3
  replace B := up B hb3
  clear dc1 ec1 lc1
  replace c1 := c1.below hb3
  clear dc2 ec2 lc2
  replace c2 := c2.below hb3
  clear dc3 ec3 lc3
  replace c3 := c3.below hb3
  have dc1 := c1.c0
  have ec1 := c1.c1
  have lc1 := c1.lt
  have dc2 := c2.c0
  have ec2 := c2.c1
  have lc2 := c2.lt
  have dc3 := c3.c0
  have ec3 := c3.c1
  have lc3 := c3.lt
  clear hb3
  go_wp2_with fail
  refine (num_sub m1 e1 m2 e2 hm1 hm2 _ hg).mono ?_
  rw [HS.out]
  simp only [numRes]
  rintro r W4 ⟨rfl, hb4⟩
  replace hg := hg.below hb4
  replace B := up B hb4
  clear dc1 ec1 lc1
  replace c1 := c1.below hb4
  clear dc2 ec2 lc2
  replace c2 := c2.below hb4
  clear dc3 ec3 lc3
  replace c3 := c3.below hb4
  have dc1 := c1.c0
  have ec1 := c1.c1
  have lc1 := c1.lt
  have dc2 := c2.c0
  have ec2 := c2.c1
  have lc2 := c2.lt
  have dc3 := c3.c0
  have ec3 := c3.c1
  have lc3 := c3.lt
  clear hb4
  go_wp2_with fail
  clear dc1 ec1 lc1
  clear dc2 ec2 lc2
  clear dc3 ec3 lc3
  refine calls_world (fun W => Glob W ∧ Below w.heap.size w W ∧ Cell2 W (w.heap.size) (.int .i64 m1) (.int .i64 e1) ∧ Cell2 W (w.heap.size + 1) (.int .i64 m2) (.int .i64 e2) ∧ Cell2 W (w.heap.size + 1 + 1) (.int .i64 m3) (.int .i64 e3) ∧ Cell2 W W4.heap.size (.int .i64 d) (.int .i64 f)) ⟨hg.alloc _, up B (al1 _ _), c1.alloc _, c2.alloc _, c3.alloc _, Cell2.new _ _ _ _⟩ ?_
  clear hg B c1 c2 c3
  rintro W ⟨hg, B, c1, c2, c3, c4⟩
  have dc1 := c1.c0
  have ec1 := c1.c1
  have lc1 := c1.lt
  have dc2 := c2.c0
  have ec2 := c2.c1
  have lc2 := c2.lt
  have dc3 := c3.c0
  have ec3 := c3.c1
  have lc3 := c3.lt
  have dc4 := c4.c0
  have ec4 := c4.c1
  have lc4 := c4.lt
  refine (num_add m1 e1 m3 e3 hm1 hm3 _ hg).mono ?_
  rw [HP.out]
  simp only [numRes]
  rintro r W5 ⟨rfl, hb5⟩
  replace hg := hg.below hb5
  replace B := up B hb5
  clear dc1 ec1 lc1
  replace c1 := c1.below hb5
  clear dc2 ec2 lc2
  replace c2 := c2.below hb5
  clear dc3 ec3 lc3
  replace c3 := c3.below hb5
  clear dc4 ec4 lc4
  replace c4 := c4.below hb5
  have dc1 := c1.c0
  have ec1 := c1.c1
  have lc1 := c1.lt
  have dc2 := c2.c0
  have ec2 := c2.c1
  have lc2 := c2.lt
  have dc3 := c3.c0
  have ec3 := c3.c1
  have lc3 := c3.lt
  have dc4 := c4.c0
  have ec4 := c4.c1
  have lc4 := c4.lt
  clear hb5
  go_wp2_with fail
  clear dc1 ec1 lc1
  clear dc2 ec2 lc2
  clear dc3 ec3 lc3
  clear dc4 ec4 lc4
  refine calls_world (fun W => Glob W ∧ Below w.heap.size w W ∧ Cell2 W (w.heap.size) (.int .i64 m1) (.int .i64 e1) ∧ Cell2 W (w.heap.size + 1) (.int .i64 m2) (.int .i64 e2) ∧ Cell2 W (w.heap.size + 1 + 1) (.int .i64 m3) (.int .i64 e3) ∧ Cell2 W W4.heap.size (.int .i64 d) (.int .i64 f) ∧ Cell2 W W5.heap.size (.int .i64 p1) (.int .i64 p2)) ⟨hg.alloc _, up B (al1 _ _), c1.alloc _, c2.alloc _, c3.alloc _, c4.alloc _, Cell2.new _ _ _ _⟩ ?_
  clear hg B c1 c2 c3 c4
  rintro W ⟨hg, B, c1, c2, c3, c4, c5⟩
  have dc1 := c1.c0
  have ec1 := c1.c1
  have lc1 := c1.lt
  have dc2 := c2.c0
  have ec2 := c2.c1
  have lc2 := c2.lt
  have dc3 := c3.c0
  have ec3 := c3.c1
  have lc3 := c3.lt
  have dc4 := c4.c0
  have ec4 := c4.c1
  have lc4 := c4.lt
  have dc5 := c5.c0
  have ec5 := c5.c1
  have lc5 := c5.lt
  refine (num_add m2 e2 m3 e3 hm2 hm3 _ hg).mono ?_
  rw [HQ.out]
  simp only [numRes]
  rintro r W6 ⟨rfl, hb6⟩
  replace hg := hg.below hb6
  replace B := up B hb6
  clear dc1 ec1 lc1
  replace c1 := c1.below hb6
  clear dc2 ec2 lc2
  replace c2 := c2.below hb6
  clear dc3 ec3 lc3
  replace c3 := c3.below hb6
  clear dc4 ec4 lc4
  replace c4 := c4.below hb6
  clear dc5 ec5 lc5
  replace c5 := c5.below hb6
  have dc1 := c1.c0
  have ec1 := c1.c1
  have lc1 := c1.lt
  have dc2 := c2.c0
  have ec2 := c2.c1
  have lc2 := c2.lt
  have dc3 := c3.c0
  have ec3 := c3.c1
  have lc3 := c3.lt
  have dc4 := c4.c0
  have ec4 := c4.c1
  have lc4 := c4.lt
  have dc5 := c5.c0
  have ec5 := c5.c1
  have lc5 := c5.lt
  clear hb6
  go_wp2
  go_ret
  exact ⟨rfl, up B (al1 _ _)⟩

set_option maxRecDepth 100000 in
theorem order_p0C (m1 e1 m2 e2 m3 e3 : Int) (hm1 : I64 m1) (hm2 : I64 m2) (hm3 : I64 m3) (h1 : cmpN m1 e1 m2 e2 = (1, 0)) (h2 : cmpN m2 e2 m1 e1 = ((-1), 0)) (hs : (m1 == m2 && e1 == e2) = false) (d f g : Int) (hS : subN m1 e1 m2 e2 = ((d, f), g)) (hg0 : (g == 0) = false) (p1 p2 pr q1 q2 qr : Int) (hP : addN m1 e1 m3 e3 = ((p1, p2), pr)) (hQ : addN m2 e2 m3 e3 = ((q1, q2), qr)) (hp : pr = 0) (hq : qr = 0) (hC : cmpN p1 p2 q1 q2 = (1, 0)) (hp1 : I64 p1) (hq1 : I64 q1) (w : World) (hg : Glob w) :
    Calls Tryd.prog 13 #[.agg #[.int .i64 m1, .int .i64 e1], .agg #[.int .i64 m2, .int .i64 e2], .agg #[.int .i64 m3, .int .i64 e3]] w fun r w' => r = .returned (.bool true) ∧ Below w.heap.size w w' := by
  subst hp
  subst hq
  have H1 := Keep.mk h1
  clear h1
  have H2 := Keep.mk h2
  clear h2
  have HS := Keep.mk hS
  clear hS
  have HP := Keep.mk hP
  clear hP
  have HQ := Keep.mk hQ
  clear hQ
  have HC := Keep.mk hC
  clear hC
  go_enter Tryd.func13, Tryd.ntmps13
  go_wp2_with fail
  refine calls_world (fun W => Glob W ∧ Below w.heap.size w W ∧ Cell2 W (w.heap.size) (.int .i64 m1) (.int .i64 e1) ∧ Cell2 W (w.heap.size + 1) (.int .i64 m2) (.int .i64 e2) ∧ Cell2 W (w.heap.size + 1 + 1) (.int .i64 m3) (.int .i64 e3)) ⟨hg.below (al3 w _ _ _), al3 w _ _ _, (((Cell2.newAt (by simp)).alloc _).alloc _), ((Cell2.newAt (by simp)).alloc _), (Cell2.newAt (by simp))⟩ ?_
  clear hg
  rintro W ⟨hg, B, c1, c2, c3⟩
  have dc1 := c1.c0
  have ec1 := c1.c1
  have lc1 := c1.lt
  have dc2 := c2.c0
  have ec2 := c2.c1
  have lc2 := c2.lt
  have dc3 := c3.c0
  have ec3 := c3.c1
  have lc3 := c3.lt
  refine (num_works _ hg).mono ?_
  rintro r W1 ⟨rfl, hb1⟩
  replace hg := hg.below hb1
  replace B := up B hb1
  clear dc1 ec1 lc1
  replace c1 := c1.below hb1
  clear dc2 ec2 lc2
  replace c2 := c2.below hb1
  clear dc3 ec3 lc3
  replace c3 := c3.below hb1
  have dc1 := c1.c0
  have ec1 := c1.c1
  have lc1 := c1.lt
  have dc2 := c2.c0
  have ec2 := c2.c1
  have lc2 := c2.lt
  have dc3 := c3.c0
  have ec3 := c3.c1
  have lc3 := c3.lt
  clear hb1
  go_wp2_with fail
  refine (num_cmp m1 e1 m2 e2 hm1 hm2 _ hg).mono ?_
  rw [H1.out]
  unfold cmpRes
  rintro r W2 ⟨rfl, hb2⟩
  replace hg := hg.below hb2
  replace B := up B hb2
  clear dc1 ec1 lc1
  replace c1 := c1.below hb2
  clear dc2 ec2 lc2
  replace c2 := c2.below hb2
  clear dc3 ec3 lc3
  replace c3 := c3.below hb2
  have dc1 := c1.c0
  have ec1 := c1.c1
  have lc1 := c1.lt
  have dc2 := c2.c0
  have ec2 := c2.c1
  have lc2 := c2.lt
  have dc3 := c3.c0
  have ec3 := c3.c1
  have lc3 := c3.lt
  clear hb2
  go_wp2_with fail
  refine (num_cmp m2 e2 m1 e1 hm2 hm1 _ hg).mono ?_
  rw [H2.out]
  unfold cmpRes
  rintro r W3 ⟨rfl, hb3⟩
  replace hg := hg.below hb3
  replace B := up B hb3
  clear dc1 ec1 lc1
  replace c1 := c1.below hb3
  clear dc2 ec2 lc2
  replace c2 := c2.below hb3
  clear dc3 ec3 lc3
  replace c3 := c3.below hb3
  have dc1 := c1.c0
  have ec1 := c1.c1
  have lc1 := c1.lt
  have dc2 := c2.c0
  have ec2 := c2.c1
  have lc2 := c2.lt
  have dc3 := c3.c0
  have ec3 := c3.c1
  have lc3 := c3.lt
  clear hb3
  go_wp2_with fail
  refine (num_sub m1 e1 m2 e2 hm1 hm2 _ hg).mono ?_
  rw [HS.out]
  simp only [numRes]
  rintro r W4 ⟨rfl, hb4⟩
  replace hg := hg.below hb4
  replace B := up B hb4
  clear dc1 ec1 lc1
  replace c1 := c1.below hb4
  clear dc2 ec2 lc2
  replace c2 := c2.below hb4
  clear dc3 ec3 lc3
  replace c3 := c3.below hb4
  have dc1 := c1.c0
  have ec1 := c1.c1
  have lc1 := c1.lt
  have dc2 := c2.c0
  have ec2 := c2.c1
  have lc2 := c2.lt
  have dc3 := c3.c0
  have ec3 := c3.c1
  have lc3 := c3.lt
  clear hb4
  go_wp2_with fail
  clear dc1 ec1 lc1
  clear dc2 ec2 lc2
  clear dc3 ec3 lc3
  refine calls_world (fun W => Glob W ∧ Below w.heap.size w W ∧ Cell2 W (w.heap.size) (.int .i64 m1) (.int .i64 e1) ∧ Cell2 W (w.heap.size + 1) (.int .i64 m2) (.int .i64 e2) ∧ Cell2 W (w.heap.size + 1 + 1) (.int .i64 m3) (.int .i64 e3) ∧ Cell2 W W4.heap.size (.int .i64 d) (.int .i64 f)) ⟨hg.alloc _, up B (al1 _ _), c1.alloc _, c2.alloc _, c3.alloc _, Cell2.new _ _ _ _⟩ ?_
  clear hg B c1 c2 c3
  rintro W ⟨hg, B, c1, c2, c3, c4⟩
  have dc1 := c1.c0
  have ec1 := c1.c1
  have lc1 := c1.lt
  have dc2 := c2.c0
  have ec2 := c2.c1
  have lc2 := c2.lt
  have dc3 := c3.c0
  have ec3 := c3.c1
  have lc3 := c3.lt
  have dc4 := c4.c0
  have ec4 := c4.c1
  have lc4 := c4.lt
  refine (num_add m1 e1 m3 e3 hm1 hm3 _ hg).mono ?_
  rw [HP.out]
  simp only [numRes]
  rintro r W5 ⟨rfl, hb5⟩
  replace hg := hg.below hb5
  replace B := up B hb5
  clear dc1 ec1 lc1
  replace c1 := c1.below hb5
  clear dc2 ec2 lc2
  replace c2 := c2.below hb5
  clear dc3 ec3 lc3
  replace c3 := c3.below hb5
  clear dc4 ec4 lc4
  replace c4 := c4.below hb5
  have dc1 := c1.c0
  have ec1 := c1.c1
  have lc1 := c1.lt
  have dc2 := c2.c0
  have ec2 := c2.c1
  have lc2 := c2.lt
  have dc3 := c3.c0
  have ec3 := c3.c1
  have lc3 := c3.lt
  have dc4 := c4.c0
  have ec4 := c4.c1
  have lc4 := c4.lt
  clear hb5
  go_wp2_with fail
  clear dc1 ec1 lc1
  clear dc2 ec2 lc2
  clear dc3 ec3 lc3
  clear dc4 ec4 lc4
  refine calls_world (fun W => Glob W ∧ Below w.heap.size w W ∧ Cell2 W (w.heap.size) (.int .i64 m1) (.int .i64 e1) ∧ Cell2 W (w.heap.size + 1) (.int .i64 m2) (.int .i64 e2) ∧ Cell2 W (w.heap.size + 1 + 1) (.int .i64 m3) (.int .i64 e3) ∧ Cell2 W W4.heap.size (.int .i64 d) (.int .i64 f) ∧ Cell2 W W5.heap.size (.int .i64 p1) (.int .i64 p2)) ⟨hg.alloc _, up B (al1 _ _), c1.alloc _, c2.alloc _, c3.alloc _, c4.alloc _, Cell2.new _ _ _ _⟩ ?_
  clear hg B c1 c2 c3 c4
  rintro W ⟨hg, B, c1, c2, c3, c4, c5⟩
  have dc1 := c1.c0
  have ec1 := c1.c1
  have lc1 := c1.lt
  have dc2 := c2.c0
  have ec2 := c2.c1
  have lc2 := c2.lt
  have dc3 := c3.c0
  have ec3 := c3.c1
  have lc3 := c3.lt
  have dc4 := c4.c0
  have ec4 := c4.c1
  have lc4 := c4.lt
  have dc5 := c5.c0
  have ec5 := c5.c1
  have lc5 := c5.lt
  refine (num_add m2 e2 m3 e3 hm2 hm3 _ hg).mono ?_
  rw [HQ.out]
  simp only [numRes]
  rintro r W6 ⟨rfl, hb6⟩
  replace hg := hg.below hb6
  replace B := up B hb6
  clear dc1 ec1 lc1
  replace c1 := c1.below hb6
  clear dc2 ec2 lc2
  replace c2 := c2.below hb6
  clear dc3 ec3 lc3
  replace c3 := c3.below hb6
  clear dc4 ec4 lc4
  replace c4 := c4.below hb6
  clear dc5 ec5 lc5
  replace c5 := c5.below hb6
  have dc1 := c1.c0
  have ec1 := c1.c1
  have lc1 := c1.lt
  have dc2 := c2.c0
  have ec2 := c2.c1
  have lc2 := c2.lt
  have dc3 := c3.c0
  have ec3 := c3.c1
  have lc3 := c3.lt
  have dc4 := c4.c0
  have ec4 := c4.c1
  have lc4 := c4.lt
  have dc5 := c5.c0
  have ec5 := c5.c1
  have lc5 := c5.lt
  clear hb6
  go_wp2_with fail
  clear dc1 ec1 lc1
  clear dc2 ec2 lc2
  clear dc3 ec3 lc3
  clear dc4 ec4 lc4
  clear dc5 ec5 lc5
  refine calls_world (fun W => Glob W ∧ Below w.heap.size w W ∧ Cell2 W (w.heap.size) (.int .i64 m1) (.int .i64 e1) ∧ Cell2 W (w.heap.size + 1) (.int .i64 m2) (.int .i64 e2) ∧ Cell2 W (w.heap.size + 1 + 1) (.int .i64 m3) (.int .i64 e3) ∧ Cell2 W W4.heap.size (.int .i64 d) (.int .i64 f) ∧ Cell2 W W5.heap.size (.int .i64 p1) (.int .i64 p2) ∧ Cell2 W W6.heap.size (.int .i64 q1) (.int .i64 q2)) ⟨hg.alloc _, up B (al1 _ _), c1.alloc _, c2.alloc _, c3.alloc _, c4.alloc _, c5.alloc _, Cell2.new _ _ _ _⟩ ?_
  clear hg B c1 c2 c3 c4 c5
  rintro W ⟨hg, B, c1, c2, c3, c4, c5, c6⟩
  have dc1 := c1.c0
  have ec1 := c1.c1
  have lc1 := c1.lt
  have dc2 := c2.c0
  have ec2 := c2.c1
  have lc2 := c2.lt
  have dc3 := c3.c0
  have ec3 := c3.c1
  have lc3 := c3.lt
  have dc4 := c4.c0
  have ec4 := c4.c1
  have lc4 := c4.lt
  have dc5 := c5.c0
  have ec5 := c5.c1
  have lc5 := c5.lt
  have dc6 := c6.c0
  have ec6 := c6.c1
  have lc6 := c6.lt
  refine (num_cmp p1 p2 q1 q2 hp1 hq1 _ hg).mono ?_
  rw [HC.out]
  unfold cmpRes
  rintro r W7 ⟨rfl, hb7⟩
  replace hg := hg.below hb7
  replace B := up B hb7
  clear dc1 ec1 lc1
  replace c1 := c1.below hb7
  clear dc2 ec2 lc2
  replace c2 := c2.below hb7
  clear dc3 ec3 lc3
  replace c3 := c3.below hb7
  clear dc4 ec4 lc4
  replace c4 := c4.below hb7
  clear dc5 ec5 lc5
  replace c5 := c5.below hb7
  clear dc6 ec6 lc6
  replace c6 := c6.below hb7
  have dc1 := c1.c0
  have ec1 := c1.c1
  have lc1 := c1.lt
  have dc2 := c2.c0
  have ec2 := c2.c1
  have lc2 := c2.lt
  have dc3 := c3.c0
  have ec3 := c3.c1
  have lc3 := c3.lt
  have dc4 := c4.c0
  have ec4 := c4.c1
  have lc4 := c4.lt
  have dc5 := c5.c0
  have ec5 := c5.c1
  have lc5 := c5.lt
  have dc6 := c6.c0
  have ec6 := c6.c1
  have lc6 := c6.lt
  clear hb7
  go_wp2
  go_ret
  exact ⟨rfl, B⟩

set_option maxRecDepth 100000 in
theorem order_p1A (m1 e1 m2 e2 m3 e3 : Int) (hm1 : I64 m1) (hm2 : I64 m2) (hm3 : I64 m3) (h1 : cmpN m1 e1 m2 e2 = (1, 0)) (h2 : cmpN m2 e2 m1 e1 = ((-1), 0)) (hs : (m1 == m2 && e1 == e2) = false) (d f g : Int) (hS : subN m1 e1 m2 e2 = ((d, f), g)) (hg0 : g = 0) (hd : ¬ d < 0) (p1 p2 pr q1 q2 qr : Int) (hP : addN m1 e1 m3 e3 = ((p1, p2), pr)) (hQ : addN m2 e2 m3 e3 = ((q1, q2), qr)) (hp : (pr != 0) = true) (w : World) (hg : Glob w) :
    Calls Tryd.prog 13 #[.agg #[.int .i64 m1, .int .i64 e1], .agg #[.int .i64 m2, .int .i64 e2], .agg #[.int .i64 m3, .int .i64 e3]] w fun r w' => r = .returned (.bool true) ∧ Below w.heap.size w w' := by
  subst hg0
  have H1 := Keep.mk h1
  clear h1
  have H2 := Keep.mk h2
  clear h2
  have HS := Keep.mk hS
  clear hS
  have HP := Keep.mk hP
  clear hP
  have HQ := Keep.mk hQ
  clear hQ
  go_enter Tryd.func13, Tryd.ntmps13
  go_wp2_with fail
  refine calls_world (fun W => Glob W ∧ Below w.heap.size w W ∧ Cell2 W (w.heap.size) (.int .i64 m1) (.int .i64 e1) ∧ Cell2 W (w.heap.size + 1) (.int .i64 m2) (.int .i64 e2) ∧ Cell2 W (w.heap.size + 1 + 1) (.int .i64 m3) (.int .i64 e3)) ⟨hg.below (al3 w _ _ _), al3 w _ _ _, (((Cell2.newAt (by simp)).alloc _).alloc _), ((Cell2.newAt (by simp)).alloc _), (Cell2.newAt (by simp))⟩ ?_
  clear hg
  rintro W ⟨hg, B, c1, c2, c3⟩
  have dc1 := c1.c0
  have ec1 := c1.c1
  have lc1 := c1.lt
  have dc2 := c2.c0
  have ec2 := c2.c1
  have lc2 := c2.lt
  have dc3 := c3.c0
  have ec3 := c3.c1
  have lc3 := c3.lt
  refine (num_works _ hg).mono ?_
  rintro r W1 ⟨rfl, hb1⟩
  replace hg := hg.below hb1
  replace B := up B hb1
  clear dc1 ec1 lc1
  replace c1 := c1.below hb1
  clear dc2 ec2 lc2
  replace c2 := c2.below hb1
  clear dc3 ec3 lc3
  replace c3 := c3.below hb1
  have dc1 := c1.c0
  have ec1 := c1.c1
  have lc1 := c1.lt
  have dc2 := c2.c0
  have ec2 := c2.c1
  have lc2 := c2.lt
  have dc3 := c3.c0
  have ec3 := c3.c1
  have lc3 := c3.lt
  clear hb1
  go_wp2_with fail
  refine (num_cmp m1 e1 m2 e2 hm1 hm2 _ hg).mono ?_
  rw [H1.out]
  unfold cmpRes
  rintro r W2 ⟨rfl, hb2⟩
  replace hg := hg.below hb2
  replace B := up B hb2
  clear dc1 ec1 lc1
  replace c1 := c1.below hb2
  clear dc2 ec2 lc2
  replace c2 := c2.below hb2
  clear dc3 ec3 lc3
  replace c3 := c3.below hb2
  have dc1 := c1.c0
  have ec1 := c1.c1
  have lc1 := c1.lt
  have dc2 := c2.c0
  have ec2 := c2.c1
  have lc2 := c2.lt
  have dc3 := c3.c0
  have ec3 := c3.c1
  have lc3 := c3.lt
  clear hb2
  go_wp2_with fail
  refine (num_cmp m2 e2 m1 e1 hm2 hm1 _ hg).mono ?_
  rw [H2.out]
  unfold cmpRes
  rintro r W3 ⟨rfl, hb3⟩
  replace hg := hg.below hb3
  replace B := up B hb3
  clear dc1 ec1 lc1
  replace c1 := c1.below hb3
  clear dc2 ec2 lc2
  replace c2 := c2.below hb3
  clear dc3 ec3 lc3
  replace c3 := c3.below hb3
  have dc1 := c1.c0
  have ec1 := c1.c1
  have lc1 := c1.lt
  have dc2 := c2.c0
  have ec2 := c2.c1
  have lc2 := c2.lt
  have dc3 := c3.c0
  have ec3 := c3.c1
  have lc3 := c3.lt
  clear hb3
  go_wp2_with fail
  refine (num_sub m1 e1 m2 e2 hm1 hm2 _ hg).mono ?_
  rw [HS.out]
  simp only [numRes]
  rintro r W4 ⟨rfl, hb4⟩
  replace hg := hg.below hb4
  replace B := up B hb4
  clear dc1 ec1 lc1
  replace c1 := c1.below hb4
  clear dc2 ec2 lc2
  replace c2 := c2.below hb4
  clear dc3 ec3 lc3
  replace c3 := c3.below hb4
  have dc1 := c1.c0
  have ec1 := c1.c1
  have lc1 := c1.lt
  have dc2 := c2.c0
  have ec2 := c2.c1
  have lc2 := c2.lt
  have dc3 := c3.c0
  have ec3 := c3.c1
  have lc3 := c3.lt
  clear hb4
  go_wp2_with fail
  clear dc1 ec1 lc1
  clear dc2 ec2 lc2
  clear dc3 ec3 lc3
  refine calls_world (fun W => Glob W ∧ Below w.heap.size w W ∧ Cell2 W (w.heap.size) (.int .i64 m1) (.int .i64 e1) ∧ Cell2 W (w.heap.size + 1) (.int .i64 m2) (.int .i64 e2) ∧ Cell2 W (w.heap.size + 1 + 1) (.int .i64 m3) (.int .i64 e3) ∧ Cell2 W W4.heap.size (.int .i64 d) (.int .i64 f)) ⟨hg.alloc _, up B (al1 _ _), c1.alloc _, c2.alloc _, c3.alloc _, Cell2.new _ _ _ _⟩ ?_
  clear hg B c1 c2 c3
  rintro W ⟨hg, B, c1, c2, c3, c4⟩
  have dc1 := c1.c0
  have ec1 := c1.c1
  have lc1 := c1.lt
  have dc2 := c2.c0
  have ec2 := c2.c1
  have lc2 := c2.lt
  have dc3 := c3.c0
  have ec3 := c3.c1
  have lc3 := c3.lt
  have dc4 := c4.c0
  have ec4 := c4.c1
  have lc4 := c4.lt
  refine (num_add m1 e1 m3 e3 hm1 hm3 _ hg).mono ?_
  rw [HP.out]
  simp only [numRes]
  rintro r W5 ⟨rfl, hb5⟩
  replace hg := hg.below hb5
  replace B := up B hb5
  clear dc1 ec1 lc1
  replace c1 := c1.below hb5
  clear dc2 ec2 lc2
  replace c2 := c2.below hb5
  clear dc3 ec3 lc3
  replace c3 := c3.below hb5
  clear dc4 ec4 lc4
  replace c4 := c4.below hb5
  have dc1 := c1.c0
  have ec1 := c1.c1
  have lc1 := c1.lt
  have dc2 := c2.c0
  have ec2 := c2.c1
  have lc2 := c2.lt
  have dc3 := c3.c0
  have ec3 := c3.c1
  have lc3 := c3.lt
  have dc4 := c4.c0
  have ec4 := c4.c1
  have lc4 := c4.lt
  clear hb5
  go_wp2_with fail
  clear dc1 ec1 lc1
  clear dc2 ec2 lc2
  clear dc3 ec3 lc3
  clear dc4 ec4 lc4
  refine calls_world (fun W => Glob W ∧ Below w.heap.size w W ∧ Cell2 W (w.heap.size) (.int .i64 m1) (.int .i64 e1) ∧ Cell2 W (w.heap.size + 1) (.int .i64 m2) (.int .i64 e2) ∧ Cell2 W (w.heap.size + 1 + 1) (.int .i64 m3) (.int .i64 e3) ∧ Cell2 W W4.heap.size (.int .i64 d) (.int .i64 f) ∧ Cell2 W W5.heap.size (.int .i64 p1) (.int .i64 p2)) ⟨hg.alloc _, up B (al1 _ _), c1.alloc _, c2.alloc _, c3.alloc _, c4.alloc _, Cell2.new _ _ _ _⟩ ?_
  clear hg B c1 c2 c3 c4
  rintro W ⟨hg, B, c1, c2, c3, c4, c5⟩
  have dc1 := c1.c0
  have ec1 := c1.c1
  have lc1 := c1.lt
  have dc2 := c2.c0
  have ec2 := c2.c1
  have lc2 := c2.lt
  have dc3 := c3.c0
  have ec3 := c3.c1
  have lc3 := c3.lt
  have dc4 := c4.c0
  have ec4 := c4.c1
  have lc4 := c4.lt
  have dc5 := c5.c0
  have ec5 := c5.c1
  have lc5 := c5.lt
  refine (num_add m2 e2 m3 e3 hm2 hm3 _ hg).mono ?_
  rw [HQ.out]
  simp only [numRes]
  rintro r W6 ⟨rfl, hb6⟩
  replace hg := hg.below hb6
  replace B := up B hb6
  clear dc1 ec1 lc1
  replace c1 := c1.below hb6
  clear dc2 ec2 lc2
  replace c2 := c2.below hb6
  clear dc3 ec3 lc3
  replace c3 := c3.below hb6
  clear dc4 ec4 lc4
  replace c4 := c4.below hb6
  clear dc5 ec5 lc5
  replace c5 := c5.below hb6
  have dc1 := c1.c0
  have ec1 := c1.c1
  have lc1 := c1.lt
  have dc2 := c2.c0
  have ec2 := c2.c1
  have lc2 := c2.lt
  have dc3 := c3.c0
  have ec3 := c3.c1
  have lc3 := c3.lt
  have dc4 := c4.c0
  have ec4 := c4.c1
  have lc4 := c4.lt
  have dc5 := c5.c0
  have ec5 := c5.c1
  have lc5 := c5.lt
  clear hb6
  go_wp2
  go_ret
  exact ⟨rfl, up B (al1 _ _)⟩

set_option maxRecDepth 100000 in
theorem order_p1B (m1 e1 m2 e2 m3 e3 : Int) (hm1 : I64 m1) (hm2 : I64 m2) (hm3 : I64 m3) (h1 : cmpN m1 e1 m2 e2 = (1, 0)) (h2 : cmpN m2 e2 m1 e1 = ((-1), 0)) (hs : (m1 == m2 && e1 == e2) = false) (d f g : Int) (hS : subN m1 e1 m2 e2 = ((d, f), g)) (hg0 : g = 0) (hd : ¬ d < 0) (p1 p2 pr q1 q2 qr : Int) (hP : addN m1 e1 m3 e3 = ((p1, p2), pr)) (hQ : addN m2 e2 m3 e3 = ((q1, q2), qr)) (hp : pr = 0) (hq : (qr != 0) = true) (w : World) (hg : Glob w) :
    Calls Tryd.prog 13 #[.agg #[.int .i64 m1, .int .i64 e1], .agg #[.int .i64 m2, .int .i64 e2], .agg #[.int .i64 m3, .int .i64 e3]] w fun r w' => r = .returned (.bool true) ∧ Below w.heap.size w w' := by
  subst hg0
  subst hp
  have H1 := Keep.mk h1
  clear h1
  have H2 := Keep.mk h2
  clear h2
  have HS := Keep.mk hS
  clear hS
  have HP := Keep.mk hP
  clear hP
  have HQ := Keep.mk hQ
  clear hQ
  go_enter Tryd.func13, Tryd.ntmps13
  go_wp2_with fail
  refine calls_world (fun W => Glob W ∧ Below w.heap.size w W ∧ Cell2 W (w.heap.size) (.int .i64 m1) (.int .i64 e1) ∧ Cell2 W (w.heap.size + 1) (.int .i64 m2) (.int .i64 e2) ∧ Cell2 W (w.heap.size + 1 + 1) (.int .i64 m3) (.int .i64 e3)) ⟨hg.below (al3 w _ _ _), al3 w _ _ _, (((Cell2.newAt (by simp)).alloc _).alloc _), ((Cell2.newAt (by simp)).alloc _), (Cell2.newAt (by simp))⟩ ?_
  clear hg
  rintro W ⟨hg, B, c1, c2, c3⟩
  have dc1 := c1.c0
  have ec1 := c1.c1
  have lc1 := c1.lt
  have dc2 := c2.c0
  have ec2 := c2.c1
  have lc2 := c2.lt
  have dc3 := c3.c0
  have ec3 := c3.c1
  have lc3 := c3.lt
  refine (num_works _ hg).mono ?_
  rintro r W1 ⟨rfl, hb1⟩
  replace hg := hg.below hb1
  replace B := up B hb1
  clear dc1 ec1 lc1
  replace c1 := c1.below hb1
  clear dc2 ec2 lc2
  replace c2 := c2.below hb1
  clear dc3 ec3 lc3
  replace c3 := c3.below hb1
  have dc1 := c1.c0
  have ec1 := c1.c1
  have lc1 := c1.lt
  have dc2 := c2.c0
  have ec2 := c2.c1
  have lc2 := c2.lt
  have dc3 := c3.c0
  have ec3 := c3.c1
  have lc3 := c3.lt
  clear hb1
  go_wp2_with fail
  refine (num_cmp m1 e1 m2 e2 hm1 hm2 _ hg).mono ?_
  rw [H1.out]
  unfold cmpRes
  rintro r W2 ⟨rfl, hb2⟩
  replace hg := hg.below hb2
  replace B := up B hb2
  clear dc1 ec1 lc1
  replace c1 := c1.below hb2
  clear dc2 ec2 lc2
  replace c2 := c2.below hb2
  clear dc3 ec3 lc3
  replace c3 := c3.below hb2
  have dc1 := c1.c0
  have ec1 := c1.c1
  have lc1 := c1.lt
  have dc2 := c2.c0
  have ec2 := c2.c1
  have lc2 := c2.lt
  have dc3 := c3.c0
  have ec3 := c3.c1
  have lc3 := c3.lt
  clear hb2
  go_wp2_with fail
  refine (num_cmp m2 e2 m1 e1 hm2 hm1 _ hg).mono ?_
  rw [H2.out]
  unfold cmpRes
  rintro r W3 ⟨rfl, hb3⟩
  replace hg := hg.below hb3
  replace B := up B hb3
  clear dc1 ec1 lc1
  replace c1 := c1.below hb3
  clear dc2 ec2 lc2
  replace c2 := c2.below hb3
  clear dc3 ec3 lc3
  replace c3 := c3.below hb3
  have dc1 := c1.c0
  have ec1 := c1.c1
  have lc1 := c1.lt
  have dc2 := c2.c0
  have ec2 := c2.c1
  have lc2 := c2.lt
  have dc3 := c3.c0
  have ec3 := c3.c1
  have lc3 := c3.lt
  clear hb3
  go_wp2_with fail
  refine (num_sub m1 e1 m2 e2 hm1 hm2 _ hg).mono ?_
  rw [HS.out]
  simp only [numRes]
  rintro r W4 ⟨rfl, hb4⟩
  replace hg := hg.below hb4
  replace B := up B hb4
  clear dc1 ec1 lc1
  replace c1 := c1.below hb4
  clear dc2 ec2 lc2
  replace c2 := c2.below hb4
  clear dc3 ec3 lc3
  replace c3 := c3.below hb4
  have dc1 := c1.c0
  have ec1 := c1.c1
  have lc1 := c1.lt
  have dc2 := c2.c0
  have ec2 := c2.c1
  have lc2 := c2.lt
  have dc3 := c3.c0
  have ec3 := c3.c1
  have lc3 := c3.lt
  clear hb4
  go_wp2_with fail
  clear dc1 ec1 lc1
  clear dc2 ec2 lc2
  clear dc3 ec3 lc3
  refine calls_world (fun W => Glob W ∧ Below w.heap.size w W ∧ Cell2 W (w.heap.size) (.int .i64 m1) (.int .i64 e1) ∧ Cell2 W (w.heap.size + 1) (.int .i64 m2) (.int .i64 e2) ∧ Cell2 W (w.heap.size + 1 + 1) (.int .i64 m3) (.int .i64 e3) ∧ Cell2 W W4.heap.size (.int .i64 d) (.int .i64 f)) ⟨hg.alloc _, up B (al1 _ _), c1.alloc _, c2.alloc _, c3.alloc _, Cell2.new _ _ _ _⟩ ?_
  clear hg B c1 c2 c3
  rintro W ⟨hg, B, c1, c2, c3, c4⟩
  have dc1 := c1.c0
  have ec1 := c1.c1
  have lc1 := c1.lt
  have dc2 := c2.c0
  have ec2 := c2.c1
  have lc2 := c2.lt
  have dc3 := c3.c0
  have ec3 := c3.c1
  have lc3 := c3.lt
  have dc4 := c4.c0
  have ec4 := c4.c1
  have lc4 := c4.lt
  refine (num_add m1 e1 m3 e3 hm1 hm3 _ hg).mono ?_
  rw [HP.out]
  simp only [numRes]
  rintro r W5 ⟨rfl, hb5⟩
  replace hg := hg.below hb5
  replace B := up B hb5
  clear dc1 ec1 lc1
  replace c1 := c1.below hb5
  clear dc2 ec2 lc2
  replace c2 := c2.below hb5
  clear dc3 ec3 lc3
  replace c3 := c3.below hb5
  clear dc4 ec4 lc4
  replace c4 := c4.below hb5
  have dc1 := c1.c0
  have ec1 := c1.c1
  have lc1 := c1.lt
  have dc2 := c2.c0
  have ec2 := c2.c1
  have lc2 := c2.lt
  have dc3 := c3.c0
  have ec3 := c3.c1
  have lc3 := c3.lt
  have dc4 := c4.c0
  have ec4 := c4.c1
  have lc4 := c4.lt
  clear hb5
  go_wp2_with fail
  clear dc1 ec1 lc1
  clear dc2 ec2 lc2
  clear dc3 ec3 lc3
  clear dc4 ec4 lc4
  refine calls_world (fun W => Glob W ∧ Below w.heap.size w W ∧ Cell2 W (w.heap.size) (.int .i64 m1) (.int .i64 e1) ∧ Cell2 W (w.heap.size + 1) (.int .i64 m2) (.int .i64 e2) ∧ Cell2 W (w.heap.size + 1 + 1) (.int .i64 m3) (.int .i64 e3) ∧ Cell2 W W4.heap.size (.int .i64 d) (.int .i64 f) ∧ Cell2 W W5.heap.size (.int .i64 p1) (.int .i64 p2)) ⟨hg.alloc _, up B (al1 _ _), c1.alloc _, c2.alloc _, c3.alloc _, c4.alloc _, Cell2.new _ _ _ _⟩ ?_
  clear hg B c1 c2 c3 c4
  rintro W ⟨hg, B, c1, c2, c3, c4, c5⟩
  have dc1 := c1.c0
  have ec1 := c1.c1
  have lc1 := c1.lt
  have dc2 := c2.c0
  have ec2 := c2.c1
  have lc2 := c2.lt
  have dc3 := c3.c0
  have ec3 := c3.c1
  have lc3 := c3.lt
  have dc4 := c4.c0
  have ec4 := c4.c1
  have lc4 := c4.lt
  have dc5 := c5.c0
  have ec5 := c5.c1
  have lc5 := c5.lt
  refine (num_add m2 e2 m3 e3 hm2 hm3 _ hg).mono ?_
  rw [HQ.out]
  simp only [numRes]
  rintro r W6 ⟨rfl, hb6⟩
  replace hg := hg.below hb6
  replace B := up B hb6
  clear dc1 ec1 lc1
  replace c1 := c1.below hb6
  clear dc2 ec2 lc2
  replace c2 := c2.below hb6
  clear dc3 ec3 lc3
  replace c3 := c3.below hb6
  clear dc4 ec4 lc4
  replace c4 := c4.below hb6
  clear dc5 ec5 lc5
  replace c5 := c5.below hb6
  have dc1 := c1.c0
  have ec1 := c1.c1
  have lc1 := c1.lt
  have dc2 := c2.c0
  have ec2 := c2.c1
  have lc2 := c2.lt
  have dc3 := c3.c0
  have ec3 := c3.c1
  have lc3 := c3.lt
  have dc4 := c4.c0
  have ec4 := c4.c1
  have lc4 := c4.lt
  have dc5 := c5.c0
  have ec5 := c5.c1
  have lc5 := c5.lt
  clear hb6
  go_wp2
  go_ret
  exact ⟨rfl, up B (al1 _ _)⟩

set_option maxRecDepth 100000 in
theorem order_p1C (m1 e1 m2 e2 m3 e3 : Int) (hm1 : I64 m1) (hm2 : I64 m2) (hm3 : I64 m3) (h1 : cmpN m1 e1 m2 e2 = (1, 0)) (h2 : cmpN m2 e2 m1 e1 = ((-1), 0)) (hs : (m1 == m2 && e1 == e2) = false) (d f g : Int) (hS : subN m1 e1 m2 e2 = ((d, f), g)) (hg0 : g = 0) (hd : ¬ d < 0) (p1 p2 pr q1 q2 qr : Int) (hP : addN m1 e1 m3 e3 = ((p1, p2), pr)) (hQ : addN m2 e2 m3 e3 = ((q1, q2), qr)) (hp : pr = 0) (hq : qr = 0) (hC : cmpN p1 p2 q1 q2 = (1, 0)) (hp1 : I64 p1) (hq1 : I64 q1) (w : World) (hg : Glob w) :
    Calls Tryd.prog 13 #[.agg #[.int .i64 m1, .int .i64 e1], .agg #[.int .i64 m2, .int .i64 e2], .agg #[.int .i64 m3, .int .i64 e3]] w fun r w' => r = .returned (.bool true) ∧ Below w.heap.size w w' := by
  subst hg0
  subst hp
  subst hq
  have H1 := Keep.mk h1
  clear h1
  have H2 := Keep.mk h2
  clear h2
  have HS := Keep.mk hS
  clear hS
  have HP := Keep.mk hP
  clear hP
  have HQ := Keep.mk hQ
  clear hQ
  have HC := Keep.mk hC
  clear hC
  go_enter Tryd.func13, Tryd.ntmps13
  go_wp2_with fail
  refine calls_world (fun W => Glob W ∧ Below w.heap.size w W ∧ Cell2 W (w.heap.size) (.int .i64 m1) (.int .i64 e1) ∧ Cell2 W (w.heap.size + 1) (.int .i64 m2) (.int .i64 e2) ∧ Cell2 W (w.heap.size + 1 + 1) (.int .i64 m3) (.int .i64 e3)) ⟨hg.below (al3 w _ _ _), al3 w _ _ _, (((Cell2.newAt (by simp)).alloc _).alloc _), ((Cell2.newAt (by simp)).alloc _), (Cell2.newAt (by simp))⟩ ?_
  clear hg
  rintro W ⟨hg, B, c1, c2, c3⟩
  have dc1 := c1.c0
  have ec1 := c1.c1
  have lc1 := c1.lt
  have dc2 := c2.c0
  have ec2 := c2.c1
  have lc2 := c2.lt
  have dc3 := c3.c0
  have ec3 := c3.c1
  have lc3 := c3.lt
  refine (num_works _ hg).mono ?_
  rintro r W1 ⟨rfl, hb1⟩
  replace hg := hg.below hb1
  replace B := up B hb1
  clear dc1 ec1 lc1
  replace c1 := c1.below hb1
  clear dc2 ec2 lc2
  replace c2 := c2.below hb1
  clear dc3 ec3 lc3
  replace c3 := c3.below hb1
  have dc1 := c1.c0
  have ec1 := c1.c1
  have lc1 := c1.lt
  have dc2 := c2.c0
  have ec2 := c2.c1
  have lc2 := c2.lt
  have dc3 := c3.c0
  have ec3 := c3.c1
  have lc3 := c3.lt
  clear hb1
  go_wp2_with fail
  refine (num_cmp m1 e1 m2 e2 hm1 hm2 _ hg).mono ?_
  rw [H1.out]
  unfold cmpRes
  rintro r W2 ⟨rfl, hb2⟩
  replace hg := hg.below hb2
  replace B := up B hb2
  clear dc1 ec1 lc1
  replace c1 := c1.below hb2
  clear dc2 ec2 lc2
  replace c2 := c2.below hb2
  clear dc3 ec3 lc3
  replace c3 := c3.below hb2
  have dc1 := c1.c0
  have ec1 := c1.c1
  have lc1 := c1.lt
  have dc2 := c2.c0
  have ec2 := c2.c1
  have lc2 := c2.lt
  have dc3 := c3.c0
  have ec3 := c3.c1
  have lc3 := c3.lt
  clear hb2
  go_wp2_with fail
  refine (num_cmp m2 e2 m1 e1 hm2 hm1 _ hg).mono ?_
  rw [H2.out]
  unfold cmpRes
  rintro r W3 ⟨rfl, hb3⟩
  replace hg := hg.below hb3
  replace B := up B hb3
  clear dc1 ec1 lc1
  replace c1 := c1.below hb3
  clear dc2 ec2 lc2
  replace c2 := c2.below hb3
  clear dc3 ec3 lc3
  replace c3 := c3.below hb3
  have dc1 := c1.c0
  have ec1 := c1.c1
  have lc1 := c1.lt
  have dc2 := c2.c0
  have ec2 := c2.c1
  have lc2 := c2.lt
  have dc3 := c3.c0
  have ec3 := c3.c1
  have lc3 := c3.lt
  clear hb3
  go_wp2_with fail
  refine (num_sub m1 e1 m2 e2 hm1 hm2 _ hg).mono ?_
  rw [HS.out]
  simp only [numRes]
  rintro r W4 ⟨rfl, hb4⟩
  replace hg := hg.below hb4
  replace B := up B hb4
  clear dc1 ec1 lc1
  replace c1 := c1.below hb4
  clear dc2 ec2 lc2
  replace c2 := c2.below hb4
  clear dc3 ec3 lc3
  replace c3 := c3.below hb4
  have dc1 := c1.c0
  have ec1 := c1.c1
  have lc1 := c1.lt
  have dc2 := c2.c0
  have ec2 := c2.c1
  have lc2 := c2.lt
  have dc3 := c3.c0
  have ec3 := c3.c1
  have lc3 := c3.lt
  clear hb4
  go_wp2_with fail
  clear dc1 ec1 lc1
  clear dc2 ec2 lc2
  clear dc3 ec3 lc3
  refine calls_world (fun W => Glob W ∧ Below w.heap.size w W ∧ Cell2 W (w.heap.size) (.int .i64 m1) (.int .i64 e1) ∧ Cell2 W (w.heap.size + 1) (.int .i64 m2) (.int .i64 e2) ∧ Cell2 W (w.heap.size + 1 + 1) (.int .i64 m3) (.int .i64 e3) ∧ Cell2 W W4.heap.size (.int .i64 d) (.int .i64 f)) ⟨hg.alloc _, up B (al1 _ _), c1.alloc _, c2.alloc _, c3.alloc _, Cell2.new _ _ _ _⟩ ?_
  clear hg B c1 c2 c3
  rintro W ⟨hg, B, c1, c2, c3, c4⟩
  have dc1 := c1.c0
  have ec1 := c1.c1
  have lc1 := c1.lt
  have dc2 := c2.c0
  have ec2 := c2.c1
  have lc2 := c2.lt
  have dc3 := c3.c0
  have ec3 := c3.c1
  have lc3 := c3.lt
  have dc4 := c4.c0
  have ec4 := c4.c1
  have lc4 := c4.lt
  refine (num_add m1 e1 m3 e3 hm1 hm3 _ hg).mono ?_
  rw [HP.out]
  simp only [numRes]
  rintro r W5 ⟨rfl, hb5⟩
  replace hg := hg.below hb5
  replace B := up B hb5
  clear dc1 ec1 lc1
  replace c1 := c1.below hb5
  clear dc2 ec2 lc2
  replace c2 := c2.below hb5
  clear dc3 ec3 lc3
  replace c3 := c3.below hb5
  clear dc4 ec4 lc4
  replace c4 := c4.below hb5
  have dc1 := c1.c0
  have ec1 := c1.c1
  have lc1 := c1.lt
  have dc2 := c2.c0
  have ec2 := c2.c1
  have lc2 := c2.lt
  have dc3 := c3.c0
  have ec3 := c3.c1
  have lc3 := c3.lt
  have dc4 := c4.c0
  have ec4 := c4.c1
  have lc4 := c4.lt
  clear hb5
  go_wp2_with fail
  clear dc1 ec1 lc1
  clear dc2 ec2 lc2
  clear dc3 ec3 lc3
  clear dc4 ec4 lc4
  refine calls_world (fun W => Glob W ∧ Below w.heap.size w W ∧ Cell2 W (w.heap.size) (.int .i64 m1) (.int .i64 e1) ∧ Cell2 W (w.heap.size + 1) (.int .i64 m2) (.int .i64 e2) ∧ Cell2 W (w.heap.size + 1 + 1) (.int .i64 m3) (.int .i64 e3) ∧ Cell2 W W4.heap.size (.int .i64 d) (.int .i64 f) ∧ Cell2 W W5.heap.size (.int .i64 p1) (.int .i64 p2)) ⟨hg.alloc _, up B (al1 _ _), c1.alloc _, c2.alloc _, c3.alloc _, c4.alloc _, Cell2.new _ _ _ _⟩ ?_
  clear hg B c1 c2 c3 c4
  rintro W ⟨hg, B, c1, c2, c3, c4, c5⟩
  have dc1 := c1.c0
  have ec1 := c1.c1
  have lc1 := c1.lt
  have dc2 := c2.c0
  have ec2 := c2.c1
  have lc2 := c2.lt
  have dc3 := c3.c0
  have ec3 := c3.c1
  have lc3 := c3.lt
  have dc4 := c4.c0
  have ec4 := c4.c1
  have lc4 := c4.lt
  have dc5 := c5.c0
  have ec5 := c5.c1
  have lc5 := c5.lt
  refine (num_add m2 e2 m3 e3 hm2 hm3 _ hg).mono ?_
  rw [HQ.out]
  simp only [numRes]
  rintro r W6 ⟨rfl, hb6⟩
  replace hg := hg.below hb6
  replace B := up B hb6
  clear dc1 ec1 lc1
  replace c1 := c1.below hb6
  clear dc2 ec2 lc2
  replace c2 := c2.below hb6
  clear dc3 ec3 lc3
  replace c3 := c3.below hb6
  clear dc4 ec4 lc4
  replace c4 := c4.below hb6
  clear dc5 ec5 lc5
  replace c5 := c5.below hb6
  have dc1 := c1.c0
  have ec1 := c1.c1
  have lc1 := c1.lt
  have dc2 := c2.c0
  have ec2 := c2.c1
  have lc2 := c2.lt
  have dc3 := c3.c0
  have ec3 := c3.c1
  have lc3 := c3.lt
  have dc4 := c4.c0
  have ec4 := c4.c1
  have lc4 := c4.lt
  have dc5 := c5.c0
  have ec5 := c5.c1
  have lc5 := c5.lt
  clear hb6
  go_wp2_with fail
  clear dc1 ec1 lc1
  clear dc2 ec2 lc2
  clear dc3 ec3 lc3
  clear dc4 ec4 lc4
  clear dc5 ec5 lc5
  refine calls_world (fun W => Glob W ∧ Below w.heap.size w W ∧ Cell2 W (w.heap.size) (.int .i64 m1) (.int .i64 e1) ∧ Cell2 W (w.heap.size + 1) (.int .i64 m2) (.int .i64 e2) ∧ Cell2 W (w.heap.size + 1 + 1) (.int .i64 m3) (.int .i64 e3) ∧ Cell2 W W4.heap.size (.int .i64 d) (.int .i64 f) ∧ Cell2 W W5.heap.size (.int .i64 p1) (.int .i64 p2) ∧ Cell2 W W6.heap.size (.int .i64 q1) (.int .i64 q2)) ⟨hg.alloc _, up B (al1 _ _), c1.alloc _, c2.alloc _, c3.alloc _, c4.alloc _, c5.alloc _, Cell2.new _ _ _ _⟩ ?_
  clear hg B c1 c2 c3 c4 c5
  rintro W ⟨hg, B, c1, c2, c3, c4, c5, c6⟩
  have dc1 := c1.c0
  have ec1 := c1.c1
  have lc1 := c1.lt
  have dc2 := c2.c0
  have ec2 := c2.c1
  have lc2 := c2.lt
  have dc3 := c3.c0
  have ec3 := c3.c1
  have lc3 := c3.lt
  have dc4 := c4.c0
  have ec4 := c4.c1
  have lc4 := c4.lt
  have dc5 := c5.c0
  have ec5 := c5.c1
  have lc5 := c5.lt
  have dc6 := c6.c0
  have ec6 := c6.c1
  have lc6 := c6.lt
  refine (num_cmp p1 p2 q1 q2 hp1 hq1 _ hg).mono ?_
  rw [HC.out]
  unfold cmpRes
  rintro r W7 ⟨rfl, hb7⟩
  replace hg := hg.below hb7
  replace B := up B hb7
  clear dc1 ec1 lc1
  replace c1 := c1.below hb7
  clear dc2 ec2 lc2
  replace c2 := c2.below hb7
  clear dc3 ec3 lc3
  replace c3 := c3.below hb7
  clear dc4 ec4 lc4
  replace c4 := c4.below hb7
  clear dc5 ec5 lc5
  replace c5 := c5.below hb7
  clear dc6 ec6 lc6
  replace c6 := c6.below hb7
  have dc1 := c1.c0
  have ec1 := c1.c1
  have lc1 := c1.lt
  have dc2 := c2.c0
  have ec2 := c2.c1
  have lc2 := c2.lt
  have dc3 := c3.c0
  have ec3 := c3.c1
  have lc3 := c3.lt
  have dc4 := c4.c0
  have ec4 := c4.c1
  have lc4 := c4.lt
  have dc5 := c5.c0
  have ec5 := c5.c1
  have lc5 := c5.lt
  have dc6 := c6.c0
  have ec6 := c6.c1
  have lc6 := c6.lt
  clear hb7
  go_wp2
  go_ret
  exact ⟨rfl, B⟩

theorem law_orders (m1 e1 m2 e2 m3 e3 : Int) (hm1 : I64 m1) (hm2 : I64 m2) (hm3 : I64 m3) (w : World) (hg : Glob w) :
    Calls Tryd.prog 13 #[.agg #[.int .i64 m1, .int .i64 e1], .agg #[.int .i64 m2, .int .i64 e2], .agg #[.int .i64 m3, .int .i64 e3]] w fun r w' => r = .returned (.bool true) ∧ Below w.heap.size w w' := by
  by_cases hr : (right m1 e1 && right m2 e2) = true
  case neg =>
    refine order_not m1 e1 m2 e2 m3 e3 hm1 hm2 hm3 ?_ ?_ w hg
    · unfold cmpN; rw [if_neg hr]
    · unfold cmpN; rw [Bool.and_comm, if_neg hr]
  have h12 : right m1 e1 = true ∧ right m2 e2 = true := by simpa using hr
  obtain ⟨r1, r2⟩ := h12
  have h1 : cmpN m1 e1 m2 e2 = (cmpS m1 e1 m2 e2, 0) := by unfold cmpN; rw [if_pos hr]
  have h2 : cmpN m2 e2 m1 e1 = (- cmpS m1 e1 m2 e2, 0) := by unfold cmpN; rw [Bool.and_comm, if_pos hr, order_turn r1 r2]
  have hbd := order_bd r1 r2
  have hsame := order_same r1 r2
  obtain ⟨⟨⟨d, f⟩, g⟩, hS⟩ : ∃ p, subN m1 e1 m2 e2 = p := ⟨_, rfl⟩
  obtain ⟨⟨⟨p1, p2⟩, pr⟩, hP⟩ : ∃ p, addN m1 e1 m3 e3 = p := ⟨_, rfl⟩
  obtain ⟨⟨⟨q1, q2⟩, qr⟩, hQ⟩ : ∃ p, addN m2 e2 m3 e3 = p := ⟨_, rfl⟩
  have hsub : g = 0 → decide (cmpS m1 e1 m2 e2 < 0) = decide (d < 0) := fun h => by subst h; exact order_sub r1 r2 hS
  have hadd : pr = 0 → qr = 0 → cmpN p1 p2 q1 q2 = (cmpS m1 e1 m2 e2, 0) := fun h h' => by subst h h'; exact order_add hP hQ (right_of_add hP) (right_of_add hQ)
  have hpi : pr = 0 → I64 p1 := fun h => by subst h; exact I64.right (right_of_add hP)
  have hqi : qr = 0 → I64 q1 := fun h => by subst h; exact I64.right (right_of_add hQ)
  generalize cmpS m1 e1 m2 e2 = x at *
  have hx : x = -1 ∨ x = 0 ∨ x = 1 := by omega
  rcases hx with rfl | rfl | rfl
  · have hs : (m1 == m2 && e1 == e2) = false := by rw [← hsame]; rfl
    by_cases hg0 : g = 0
    · have hd : d < 0 := by have := hsub hg0; simp at this; omega
      by_cases hp : pr = 0
      · by_cases hq : qr = 0
        · exact order_n1C m1 e1 m2 e2 m3 e3 hm1 hm2 hm3 h1 h2 hs d f g hS hg0 hd p1 p2 pr q1 q2 qr hP hQ hp hq (hadd hp hq) (hpi hp) (hqi hq) w hg
        · exact order_n1B m1 e1 m2 e2 m3 e3 hm1 hm2 hm3 h1 h2 hs d f g hS hg0 hd p1 p2 pr q1 q2 qr hP hQ hp (by simpa using hq) w hg
      · exact order_n1A m1 e1 m2 e2 m3 e3 hm1 hm2 hm3 h1 h2 hs d f g hS hg0 hd p1 p2 pr q1 q2 qr hP hQ (by simpa using hp) w hg
    · by_cases hp : pr = 0
      · by_cases hq : qr = 0
        · exact order_n0C m1 e1 m2 e2 m3 e3 hm1 hm2 hm3 h1 h2 hs d f g hS (by simpa using hg0) p1 p2 pr q1 q2 qr hP hQ hp hq (hadd hp hq) (hpi hp) (hqi hq) w hg
        · exact order_n0B m1 e1 m2 e2 m3 e3 hm1 hm2 hm3 h1 h2 hs d f g hS (by simpa using hg0) p1 p2 pr q1 q2 qr hP hQ hp (by simpa using hq) w hg
      · exact order_n0A m1 e1 m2 e2 m3 e3 hm1 hm2 hm3 h1 h2 hs d f g hS (by simpa using hg0) p1 p2 pr q1 q2 qr hP hQ (by simpa using hp) w hg
  · have hs : m1 = m2 ∧ e1 = e2 := by have := hsame.symm; simp at this; exact this
    by_cases hg0 : g = 0
    · have hd : ¬ d < 0 := by have := hsub hg0; simp at this; omega
      by_cases hp : pr = 0
      · by_cases hq : qr = 0
        · exact order_z1C m1 e1 m2 e2 m3 e3 hm1 hm2 hm3 h1 h2 hs d f g hS hg0 hd p1 p2 pr q1 q2 qr hP hQ hp hq (hadd hp hq) (hpi hp) (hqi hq) w hg
        · exact order_z1B m1 e1 m2 e2 m3 e3 hm1 hm2 hm3 h1 h2 hs d f g hS hg0 hd p1 p2 pr q1 q2 qr hP hQ hp (by simpa using hq) w hg
      · exact order_z1A m1 e1 m2 e2 m3 e3 hm1 hm2 hm3 h1 h2 hs d f g hS hg0 hd p1 p2 pr q1 q2 qr hP hQ (by simpa using hp) w hg
    · by_cases hp : pr = 0
      · by_cases hq : qr = 0
        · exact order_z0C m1 e1 m2 e2 m3 e3 hm1 hm2 hm3 h1 h2 hs d f g hS (by simpa using hg0) p1 p2 pr q1 q2 qr hP hQ hp hq (hadd hp hq) (hpi hp) (hqi hq) w hg
        · exact order_z0B m1 e1 m2 e2 m3 e3 hm1 hm2 hm3 h1 h2 hs d f g hS (by simpa using hg0) p1 p2 pr q1 q2 qr hP hQ hp (by simpa using hq) w hg
      · exact order_z0A m1 e1 m2 e2 m3 e3 hm1 hm2 hm3 h1 h2 hs d f g hS (by simpa using hg0) p1 p2 pr q1 q2 qr hP hQ (by simpa using hp) w hg
  · have hs : (m1 == m2 && e1 == e2) = false := by rw [← hsame]; rfl
    by_cases hg0 : g = 0
    · have hd : ¬ d < 0 := by have := hsub hg0; simp at this; omega
      by_cases hp : pr = 0
      · by_cases hq : qr = 0
        · exact order_p1C m1 e1 m2 e2 m3 e3 hm1 hm2 hm3 h1 h2 hs d f g hS hg0 hd p1 p2 pr q1 q2 qr hP hQ hp hq (hadd hp hq) (hpi hp) (hqi hq) w hg
        · exact order_p1B m1 e1 m2 e2 m3 e3 hm1 hm2 hm3 h1 h2 hs d f g hS hg0 hd p1 p2 pr q1 q2 qr hP hQ hp (by simpa using hq) w hg
      · exact order_p1A m1 e1 m2 e2 m3 e3 hm1 hm2 hm3 h1 h2 hs d f g hS hg0 hd p1 p2 pr q1 q2 qr hP hQ (by simpa using hp) w hg
    · by_cases hp : pr = 0
      · by_cases hq : qr = 0
        · exact order_p0C m1 e1 m2 e2 m3 e3 hm1 hm2 hm3 h1 h2 hs d f g hS (by simpa using hg0) p1 p2 pr q1 q2 qr hP hQ hp hq (hadd hp hq) (hpi hp) (hqi hq) w hg
        · exact order_p0B m1 e1 m2 e2 m3 e3 hm1 hm2 hm3 h1 h2 hs d f g hS (by simpa using hg0) p1 p2 pr q1 q2 qr hP hQ hp (by simpa using hq) w hg
      · exact order_p0A m1 e1 m2 e2 m3 e3 hm1 hm2 hm3 h1 h2 hs d f g hS (by simpa using hg0) p1 p2 pr q1 q2 qr hP hQ (by simpa using hp) w hg
end Go.Proofs.YtljemfajjeoecaaDoor
