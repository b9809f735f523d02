/- The references' Sub and Cmp. Conditions: the numbers are of int64 and int. -/
import Derived.Test.YtljemfajjeoecaaDoorRefSum
import Derived.Test.YtljemfajjeoecaaDoorOrdMath
namespace Go.Proofs.YtljemfajjeoecaaDoor
open Go Go.RowKit Go.Proofs Th
attribute [local go_sem] Above.cell Above.frozen

theorem sub_norm {m1 e1 m2 e2 : Int} {neg : Bool} {os : List Nat} (h1 : right m1 e1 = true) (h2 : right m2 e2 = true)
    (hP : PlusOut (decide (m1 < 0)) (!decide (m2 < 0)) (digs m1.natAbs) (digs m2.natAbs) e1 e2 neg os) : norm neg (val os) (pairE (digs m1.natAbs) (digs m2.natAbs) e1 e2) = addN m1 e1 (-m2) e2 := by
  have hsb := sg_not m2
  rw [← Int.natAbs_neg m2] at hP ⊢
  exact add_norm h1 (right_neg h2) (sg_abs m1) hsb hP
theorem cells5_keep {w1 w2 : World} {n m : Nat} {v0 v1 u0 u1 u2 : Value}
    (hS : w1.cell? ⟨n, 0, none⟩ = some v0 ∧ w1.cell? ⟨n, 1, none⟩ = some v1 ∧ w1.cell? ⟨m, 0, none⟩ = some u0 ∧ w1.cell? ⟨m, 1, none⟩ = some u1 ∧ w1.cell? ⟨m, 2, none⟩ = some u2) (hb : Below w1.heap.size w1 w2) :
    w2.cell? ⟨n, 0, none⟩ = some v0 ∧ w2.cell? ⟨n, 1, none⟩ = some v1 ∧ w2.cell? ⟨m, 0, none⟩ = some u0 ∧ w2.cell? ⟨m, 1, none⟩ = some u1 ∧ w2.cell? ⟨m, 2, none⟩ = some u2 :=
  ⟨(hb.cell (lt_of_cell hS.1)).trans hS.1, (hb.cell (lt_of_cell hS.2.1)).trans hS.2.1, (hb.cell (lt_of_cell hS.2.2.1)).trans hS.2.2.1, (hb.cell (lt_of_cell hS.2.2.2.1)).trans hS.2.2.2.1, (hb.cell (lt_of_cell hS.2.2.2.2)).trans hS.2.2.2.2⟩
theorem cells5_set {w1 : World} {n m g : Nat} {v0 v1 u0 u1 u2 x y : Value} (h1 : g ≠ n) (h2 : g ≠ m)
    (hS : w1.cell? ⟨n, 0, none⟩ = some v0 ∧ w1.cell? ⟨n, 1, none⟩ = some v1 ∧ w1.cell? ⟨m, 0, none⟩ = some u0 ∧ w1.cell? ⟨m, 1, none⟩ = some u1 ∧ w1.cell? ⟨m, 2, none⟩ = some u2) :
    ((w1.setCell ⟨g, 0, none⟩ x).setCell ⟨g, 1, none⟩ y).cell? ⟨n, 0, none⟩ = some v0 ∧ ((w1.setCell ⟨g, 0, none⟩ x).setCell ⟨g, 1, none⟩ y).cell? ⟨n, 1, none⟩ = some v1 ∧ ((w1.setCell ⟨g, 0, none⟩ x).setCell ⟨g, 1, none⟩ y).cell? ⟨m, 0, none⟩ = some u0 ∧ ((w1.setCell ⟨g, 0, none⟩ x).setCell ⟨g, 1, none⟩ y).cell? ⟨m, 1, none⟩ = some u1 ∧ ((w1.setCell ⟨g, 0, none⟩ x).setCell ⟨g, 1, none⟩ y).cell? ⟨m, 2, none⟩ = some u2 :=
  ⟨cell_other h1 (cell_other h1 hS.1), cell_other h1 (cell_other h1 hS.2.1), cell_other h2 (cell_other h2 hS.2.2.1), cell_other h2 (cell_other h2 hS.2.2.2.1), cell_other h2 (cell_other h2 hS.2.2.2.2)⟩

set_option maxRecDepth 100000 in
set_option maxHeartbeats 2000000 in
theorem rsub_bad1 (m1 e1 m2 e2 : Int) (hm1 : I64 m1) (_hm2 : I64 m2) (h1 : right m1 e1 = false) (w : World) : Calls Tryd.prog 43 #[.agg #[.int .i64 m1, .int .i64 e1], .agg #[.int .i64 m2, .int .i64 e2]] w fun r w' => r = .returned (numRes ((0, 0), 10)) ∧ Below w.heap.size w w' := by
  go_enter Tryd.func43, Tryd.ntmps43
  go_wp2_with fail
  refine (ref_Right m1 e1 hm1 _).mono ?_
  rw [h1]
  rintro r W1 ⟨rfl, hb⟩
  have Hx := Keep.mk ((((Box.new (w := w) (n := w.heap.size) [.int .i64 m1, .int .i64 e1] 23 (by first | rfl | simp)).alloc (.cells #[.int .i64 m2, .int .i64 e2] 23)).alloc (.cells #[.int .i64 0, .int .i64 0] 23)).below hb (by simp only [World.size_alloc]; omega))
  have Hy := Keep.mk (((Box.new (w := (w.alloc (.cells #[.int .i64 m1, .int .i64 e1] 23))) (n := w.heap.size + 1) [.int .i64 m2, .int .i64 e2] 23 (by first | rfl | simp)).alloc (.cells #[.int .i64 0, .int .i64 0] 23)).below hb (by simp only [World.size_alloc]; omega))
  have Hr := Keep.mk ((Box.new (w := ((w.alloc (.cells #[.int .i64 m1, .int .i64 e1] 23)).alloc (.cells #[.int .i64 m2, .int .i64 e2] 23))) (n := w.heap.size + 2) [.int .i64 0, .int .i64 0] 23 (by first | rfl | simp)).below hb (by simp only [World.size_alloc]; omega))
  have HB := Keep.mk (up (al3 w _ _ _) hb)
  have xc0 := Hx.out.cell 0 _ rfl
  have xf0 := Hx.out.froz 0
  have xc1 := Hx.out.cell 1 _ rfl
  have xf1 := Hx.out.froz 1
  have xl := Hx.out.lt
  have yc0 := Hy.out.cell 0 _ rfl
  have yf0 := Hy.out.froz 0
  have yc1 := Hy.out.cell 1 _ rfl
  have yf1 := Hy.out.froz 1
  have yl := Hy.out.lt
  have rc0 := Hr.out.cell 0 _ rfl
  have rf0 := Hr.out.froz 0
  have rc1 := Hr.out.cell 1 _ rfl
  have rf1 := Hr.out.froz 1
  have rl := Hr.out.lt
  go_wp2
  refine bodyPost_ret (v := numRes ((0, 0), 10)) ?_ rfl ⟨rfl, st1 (st1 HB.out _ _ _ (by omega)) _ _ _ (by omega)⟩
  simp [numRes, results, Tryd.results43, go_sem, rc0, rc1]
set_option maxRecDepth 100000 in
set_option maxHeartbeats 2000000 in
theorem rsub_bad2 (m1 e1 m2 e2 : Int) (hm1 : I64 m1) (hm2 : I64 m2) (h1 : right m1 e1 = true) (h2 : right m2 e2 = false) (w : World) : Calls Tryd.prog 43 #[.agg #[.int .i64 m1, .int .i64 e1], .agg #[.int .i64 m2, .int .i64 e2]] w fun r w' => r = .returned (numRes ((0, 0), 10)) ∧ Below w.heap.size w w' := by
  go_enter Tryd.func43, Tryd.ntmps43
  go_wp2_with fail
  refine (ref_Right m1 e1 hm1 _).mono ?_
  rw [h1]
  rintro r W1 ⟨rfl, hb⟩
  have Hx := Keep.mk ((((Box.new (w := w) (n := w.heap.size) [.int .i64 m1, .int .i64 e1] 23 (by first | rfl | simp)).alloc (.cells #[.int .i64 m2, .int .i64 e2] 23)).alloc (.cells #[.int .i64 0, .int .i64 0] 23)).below hb (by simp only [World.size_alloc]; omega))
  have Hy := Keep.mk (((Box.new (w := (w.alloc (.cells #[.int .i64 m1, .int .i64 e1] 23))) (n := w.heap.size + 1) [.int .i64 m2, .int .i64 e2] 23 (by first | rfl | simp)).alloc (.cells #[.int .i64 0, .int .i64 0] 23)).below hb (by simp only [World.size_alloc]; omega))
  have Hr := Keep.mk ((Box.new (w := ((w.alloc (.cells #[.int .i64 m1, .int .i64 e1] 23)).alloc (.cells #[.int .i64 m2, .int .i64 e2] 23))) (n := w.heap.size + 2) [.int .i64 0, .int .i64 0] 23 (by first | rfl | simp)).below hb (by simp only [World.size_alloc]; omega))
  have HB := Keep.mk (up (al3 w _ _ _) hb)
  have xc0 := Hx.out.cell 0 _ rfl
  have xf0 := Hx.out.froz 0
  have xc1 := Hx.out.cell 1 _ rfl
  have xf1 := Hx.out.froz 1
  have xl := Hx.out.lt
  have yc0 := Hy.out.cell 0 _ rfl
  have yf0 := Hy.out.froz 0
  have yc1 := Hy.out.cell 1 _ rfl
  have yf1 := Hy.out.froz 1
  have yl := Hy.out.lt
  have rc0 := Hr.out.cell 0 _ rfl
  have rf0 := Hr.out.froz 0
  have rc1 := Hr.out.cell 1 _ rfl
  have rf1 := Hr.out.froz 1
  have rl := Hr.out.lt
  go_wp2_with fail
  refine (ref_Right m2 e2 hm2 _).mono ?_
  rw [h2]
  rintro r W2 ⟨rfl, hb⟩
  clear xc0 xc1 xf0 xf1 xl yc0 yc1 yf0 yf1 yl rc0 rc1 rf0 rf1 rl
  replace Hx := Keep.mk (Hx.out.below hb Hx.out.lt)
  replace Hy := Keep.mk (Hy.out.below hb Hy.out.lt)
  replace Hr := Keep.mk (Hr.out.below hb Hr.out.lt)
  replace HB := Keep.mk (up HB.out hb)
  have xc0 := Hx.out.cell 0 _ rfl
  have xf0 := Hx.out.froz 0
  have xc1 := Hx.out.cell 1 _ rfl
  have xf1 := Hx.out.froz 1
  have xl := Hx.out.lt
  have yc0 := Hy.out.cell 0 _ rfl
  have yf0 := Hy.out.froz 0
  have yc1 := Hy.out.cell 1 _ rfl
  have yf1 := Hy.out.froz 1
  have yl := Hy.out.lt
  have rc0 := Hr.out.cell 0 _ rfl
  have rf0 := Hr.out.froz 0
  have rc1 := Hr.out.cell 1 _ rfl
  have rf1 := Hr.out.froz 1
  have rl := Hr.out.lt
  go_wp2
  refine bodyPost_ret (v := numRes ((0, 0), 10)) ?_ rfl ⟨rfl, st1 (st1 HB.out _ _ _ (by omega)) _ _ _ (by omega)⟩
  simp [numRes, results, Tryd.results43, go_sem, rc0, rc1]
set_option maxRecDepth 100000 in
set_option maxHeartbeats 2000000 in
theorem rsub_ok (m1 e1 m2 e2 : Int) (hm1 : I64 m1) (hm2 : I64 m2) (h1 : right m1 e1 = true) (h2 : right m2 e2 = true) (p q k : Int) (hr : addN m1 e1 (-m2) e2 = ((p, q), k)) (w : World) : Calls Tryd.prog 43 #[.agg #[.int .i64 m1, .int .i64 e1], .agg #[.int .i64 m2, .int .i64 e2]] w fun r w' => r = .returned (numRes ((p, q), k)) ∧ Below w.heap.size w w' := by
  have HN1 := Keep.mk (digs_len m1.natAbs (by have := hm1.lo; have := hm1.hi; omega))
  have HN2 := Keep.mk (digs_len m2.natAbs (by have := hm2.lo; have := hm2.hi; omega))
  have HR1 := Keep.mk (right_exp h1)
  have HR2 := Keep.mk (right_exp h2)
  have HH := Keep.mk hr
  clear hr
  go_enter Tryd.func43, Tryd.ntmps43
  go_wp2_with fail
  refine (ref_Right m1 e1 hm1 _).mono ?_
  rw [h1]
  rintro r W1 ⟨rfl, hb⟩
  have Hx := Keep.mk ((((Box.new (w := w) (n := w.heap.size) [.int .i64 m1, .int .i64 e1] 23 (by first | rfl | simp)).alloc (.cells #[.int .i64 m2, .int .i64 e2] 23)).alloc (.cells #[.int .i64 0, .int .i64 0] 23)).below hb (by simp only [World.size_alloc]; omega))
  have Hy := Keep.mk (((Box.new (w := (w.alloc (.cells #[.int .i64 m1, .int .i64 e1] 23))) (n := w.heap.size + 1) [.int .i64 m2, .int .i64 e2] 23 (by first | rfl | simp)).alloc (.cells #[.int .i64 0, .int .i64 0] 23)).below hb (by simp only [World.size_alloc]; omega))
  have Hr := Keep.mk ((Box.new (w := ((w.alloc (.cells #[.int .i64 m1, .int .i64 e1] 23)).alloc (.cells #[.int .i64 m2, .int .i64 e2] 23))) (n := w.heap.size + 2) [.int .i64 0, .int .i64 0] 23 (by first | rfl | simp)).below hb (by simp only [World.size_alloc]; omega))
  have HB := Keep.mk (up (al3 w _ _ _) hb)
  have xc0 := Hx.out.cell 0 _ rfl
  have xf0 := Hx.out.froz 0
  have xc1 := Hx.out.cell 1 _ rfl
  have xf1 := Hx.out.froz 1
  have xl := Hx.out.lt
  have yc0 := Hy.out.cell 0 _ rfl
  have yf0 := Hy.out.froz 0
  have yc1 := Hy.out.cell 1 _ rfl
  have yf1 := Hy.out.froz 1
  have yl := Hy.out.lt
  have rc0 := Hr.out.cell 0 _ rfl
  have rf0 := Hr.out.froz 0
  have rc1 := Hr.out.cell 1 _ rfl
  have rf1 := Hr.out.froz 1
  have rl := Hr.out.lt
  go_wp2_with fail
  refine (ref_Right m2 e2 hm2 _).mono ?_
  rw [h2]
  rintro r W2 ⟨rfl, hb⟩
  clear xc0 xc1 xf0 xf1 xl yc0 yc1 yf0 yf1 yl rc0 rc1 rf0 rf1 rl
  replace Hx := Keep.mk (Hx.out.below hb Hx.out.lt)
  replace Hy := Keep.mk (Hy.out.below hb Hy.out.lt)
  replace Hr := Keep.mk (Hr.out.below hb Hr.out.lt)
  replace HB := Keep.mk (up HB.out hb)
  have xc0 := Hx.out.cell 0 _ rfl
  have xf0 := Hx.out.froz 0
  have xc1 := Hx.out.cell 1 _ rfl
  have xf1 := Hx.out.froz 1
  have xl := Hx.out.lt
  have yc0 := Hy.out.cell 0 _ rfl
  have yf0 := Hy.out.froz 0
  have yc1 := Hy.out.cell 1 _ rfl
  have yf1 := Hy.out.froz 1
  have yl := Hy.out.lt
  have rc0 := Hr.out.cell 0 _ rfl
  have rf0 := Hr.out.froz 0
  have rc1 := Hr.out.cell 1 _ rfl
  have rf1 := Hr.out.froz 1
  have rl := Hr.out.lt
  go_wp2_with fail
  refine (long_at m2 e2 hm2 _).mono ?_
  rintro r W3 ⟨A2, c2, rfl, hI2, hb⟩
  clear xc0 xc1 xf0 xf1 xl yc0 yc1 yf0 yf1 yl rc0 rc1 rf0 rf1 rl
  replace Hx := Keep.mk (Hx.out.below hb Hx.out.lt)
  replace Hy := Keep.mk (Hy.out.below hb Hy.out.lt)
  replace Hr := Keep.mk (Hr.out.below hb Hr.out.lt)
  replace HB := Keep.mk (up HB.out hb)
  have xc0 := Hx.out.cell 0 _ rfl
  have xf0 := Hx.out.froz 0
  have xc1 := Hx.out.cell 1 _ rfl
  have xf1 := Hx.out.froz 1
  have xl := Hx.out.lt
  have yc0 := Hy.out.cell 0 _ rfl
  have yf0 := Hy.out.froz 0
  have yc1 := Hy.out.cell 1 _ rfl
  have yf1 := Hy.out.froz 1
  have yl := Hy.out.lt
  have rc0 := Hr.out.cell 0 _ rfl
  have rf0 := Hr.out.froz 0
  have rc1 := Hr.out.cell 1 _ rfl
  have rf1 := Hr.out.froz 1
  have rl := Hr.out.lt
  have HJ := Keep.mk hI2
  go_wp2_with fail
  have xlW3 := Hx.out.lt
  have ylW3 := Hy.out.lt
  have rlW3 := Hr.out.lt
  refine wp_world (fun W => Box W (w.heap.size) [.int .i64 m1, .int .i64 e1] ∧ Box W (w.heap.size + 1) [.int .i64 m2, .int .i64 e2] ∧ Box W (w.heap.size + 2) [.int .i64 0, .int .i64 0] ∧ Box W (W3.heap.size) [.bool (!decide (m2 < 0)), .slice A2 (digs m2.natAbs).length c2, .int .i64 e2] ∧ Below w.heap.size w W ∧ IntsAt W W.heap.size A2 c2 (digs m2.natAbs)) ⟨Hx.out.alloc _, Hy.out.alloc _, Hr.out.alloc _, Box.new [.bool (!decide (m2 < 0)), .slice A2 (digs m2.natAbs).length c2, .int .i64 e2] _ rfl, up HB.out (al1 _ _), (HJ.out.below (al1 _ _) (Nat.le_refl _)).more (al1 _ _).size⟩ ?_
  clear xc0 xc1 xf0 xf1 xl yc0 yc1 yf0 yf1 yl rc0 rc1 rf0 rf1 rl
  clear Hx Hy Hr HB HJ
  rintro W4 ⟨Hx, Hy, Hr, Hz, HB, HJ⟩
  replace Hx := Keep.mk Hx
  replace Hy := Keep.mk Hy
  replace Hr := Keep.mk Hr
  replace Hz := Keep.mk Hz
  replace HB := Keep.mk HB
  replace HJ := Keep.mk HJ
  have xc0 := Hx.out.cell 0 _ rfl
  have xf0 := Hx.out.froz 0
  have xc1 := Hx.out.cell 1 _ rfl
  have xf1 := Hx.out.froz 1
  have xl := Hx.out.lt
  have yc0 := Hy.out.cell 0 _ rfl
  have yf0 := Hy.out.froz 0
  have yc1 := Hy.out.cell 1 _ rfl
  have yf1 := Hy.out.froz 1
  have yl := Hy.out.lt
  have rc0 := Hr.out.cell 0 _ rfl
  have rf0 := Hr.out.froz 0
  have rc1 := Hr.out.cell 1 _ rfl
  have rf1 := Hr.out.froz 1
  have rl := Hr.out.lt
  have zc0 := Hz.out.cell 0 _ rfl
  have zf0 := Hz.out.froz 0
  have zc1 := Hz.out.cell 1 _ rfl
  have zf1 := Hz.out.froz 1
  have zc2 := Hz.out.cell 2 _ rfl
  have zf2 := Hz.out.froz 2
  have zl := Hz.out.lt
  go_region_held3 (fun w' => w'.cell? ⟨w.heap.size, 0, none⟩ = some (.int .i64 m1) ∧ w'.cell? ⟨w.heap.size, 1, none⟩ = some (.int .i64 e1) ∧ w'.cell? ⟨W3.heap.size, 0, none⟩ = some (.bool (!decide (m2 < 0))) ∧ w'.cell? ⟨W3.heap.size, 1, none⟩ = some (.slice A2 (digs m2.natAbs).length c2) ∧ w'.cell? ⟨W3.heap.size, 2, none⟩ = some (.int .i64 e2))
    ((first | exact ⟨xc0, xc1, zc0, zc1, zc2⟩ | exact cells5_keep (by assumption) (by assumption) | exact cells5_set (by omega) (by omega) (by assumption)))
    ((first
      | (go_at_call_of 68 (Value.agg #[.int .i64 m1, .int .i64 e1]); refine (long_at m1 e1 hm1 _).mono ?_; rintro r V1 ⟨A1, c1, rfl, hI1, hb1⟩)
      | (go_at_call 77; refine (plus_at _ _ A1 A2 c1 c2 _ _ _ _ (digs_digs _) (digs_digs _) (by have := HN1.out; omega) (by have := HN2.out; omega) (by have := HR1.out; omega) (by have := HR2.out; omega) _ hI1 (((HJ.out.below (below_drew _) (Nat.le_refl _)).below hb1 (Nat.le_refl _)).more hb1.size)).mono ?_; rintro r V3 ⟨neg, A3, c3, os, rfl, hP, hI3, hF3, hb3⟩)
      | (go_at_call 63; refine (short_as neg A3 c3 os _ hP.1 (by have := hP.2.1; omega) (by have := pairE_bd (digs m1.natAbs) (digs m2.natAbs) e1 e2 HR1.out HR2.out; omega) p q k ((sub_norm h1 h2 hP).trans HH.out) _ hI3).mono ?_; rintro r V4 ⟨rfl, hb4⟩; have HQ := Keep.mk (((Hr.out.below (below_drew _) rl).below hb1 rl).below hb3 (Nat.lt_of_lt_of_le rl hb1.size)); have HQ2 := Keep.mk (HQ.out.below hb4 HQ.out.lt); have q0 := HQ2.out.cell 0 _ rfl; have q1 := HQ2.out.cell 1 _ rfl; have g0 := HQ2.out.froz 0; have g1 := HQ2.out.froz 1)))
  go_wp2
  refine bodyPost_ret (v := numRes ((p, q), k)) ?_ rfl ⟨rfl, st1 (st1 (up (up (up (up HB.out (below_drew _)) hb1) hb3) hb4) _ _ _ (by omega)) _ _ _ (by omega)⟩
  simp [numRes, results, Tryd.results43, go_sem, q0, q1]
theorem ref_Sub (m1 e1 m2 e2 : Int) (hm1 : I64 m1) (hm2 : I64 m2) (w : World) : Calls Tryd.prog 43 #[.agg #[.int .i64 m1, .int .i64 e1], .agg #[.int .i64 m2, .int .i64 e2]] w fun r w' => r = .returned (numRes (if right m1 e1 && right m2 e2 then addN m1 e1 (-m2) e2 else ((0, 0), 10))) ∧ Below w.heap.size w w' := by
  cases h1 : right m1 e1
  · exact rsub_bad1 m1 e1 m2 e2 hm1 hm2 h1 w
  · cases h2 : right m2 e2
    · exact rsub_bad2 m1 e1 m2 e2 hm1 hm2 h1 h2 w
    · obtain ⟨⟨⟨p, q⟩, k⟩, hr⟩ : ∃ x, addN m1 e1 (-m2) e2 = x := ⟨_, rfl⟩
      have := rsub_ok m1 e1 m2 e2 hm1 hm2 h1 h2 p q k hr w
      rw [hr]; exact this
end Go.Proofs.YtljemfajjeoecaaDoor
