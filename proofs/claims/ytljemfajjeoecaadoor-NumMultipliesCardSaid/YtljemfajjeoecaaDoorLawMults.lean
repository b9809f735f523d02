/- thimblelaw01.NumMultiplies. Conditions: Glob; the numbers are of int64. -/
import Derived.Test.YtljemfajjeoecaaDoorWorks
import Derived.Test.YtljemfajjeoecaaDoorLaw
import Derived.Test.YtljemfajjeoecaaDoorRefMul
import Derived.Test.YtljemfajjeoecaaDoorRefDiv
namespace Go.Proofs.YtljemfajjeoecaaDoor
open Go Go.RowKit Go.Proofs Th
attribute [local go_sem] Above.cell Above.frozen

set_option maxRecDepth 100000 in
theorem mults_all (m1 e1 m2 e2 : Int) (hm1 : I64 m1) (hm2 : I64 m2) (p q k p' q' k' p'' q'' k'' : Int) (hM : mulN m1 e1 m2 e2 = ((p, q), k)) (hD : divN m1 e1 m2 e2 = ((p', q'), k')) (hR : remN m1 e1 m2 e2 = ((p'', q''), k'')) (w : World) (hg : Glob w) :
    Calls Tryd.prog 11 #[.agg #[.int .i64 m1, .int .i64 e1], .agg #[.int .i64 m2, .int .i64 e2]] w fun r w' => r = .returned (.bool true) ∧ Below w.heap.size w w' := by
  have HM := Keep.mk hM
  have HD := Keep.mk hD
  have HR := Keep.mk hR
  clear hM hD hR
  go_enter Tryd.func11, Tryd.ntmps11
  go_wp2_with fail
  refine calls_world (fun W => Glob W ∧ Below w.heap.size w W ∧ Cell2 W (w.heap.size) (.int .i64 m1) (.int .i64 e1) ∧ Cell2 W (w.heap.size + 1) (.int .i64 m2) (.int .i64 e2)) ⟨hg.below (al2 w _ _), al2 w _ _, ((Cell2.newAt (by simp)).alloc _), (Cell2.newAt (by simp))⟩ ?_
  clear hg
  rintro W ⟨hg, B, c1, c2⟩
  have dc1 := c1.c0
  have ec1 := c1.c1
  have lc1 := c1.lt
  have dc2 := c2.c0
  have ec2 := c2.c1
  have lc2 := c2.lt
  refine (num_mul m1 e1 m2 e2 hm1 hm2 _ hg).mono ?_
  rw [HM.out]
  simp only [numRes]
  rintro r W1 ⟨rfl, hb1⟩
  replace hg := hg.below hb1
  replace B := up B hb1
  clear dc1 ec1 lc1
  replace c1 := c1.below hb1
  clear dc2 ec2 lc2
  replace c2 := c2.below hb1
  have dc1 := c1.c0
  have ec1 := c1.c1
  have lc1 := c1.lt
  have dc2 := c2.c0
  have ec2 := c2.c1
  have lc2 := c2.lt
  clear hb1
  go_wp2_with fail
  clear dc1 ec1 lc1
  clear dc2 ec2 lc2
  refine calls_world (fun W => Glob W ∧ Below w.heap.size w W ∧ Cell2 W (w.heap.size) (.int .i64 m1) (.int .i64 e1) ∧ Cell2 W (w.heap.size + 1) (.int .i64 m2) (.int .i64 e2) ∧ Cell2 W W1.heap.size (.int .i64 p) (.int .i64 q)) ⟨hg.alloc _, up B (al1 _ _), c1.alloc _, c2.alloc _, Cell2.new _ _ _ _⟩ ?_
  clear hg B c1 c2
  rintro W ⟨hg, B, c1, c2, c3⟩
  have dc1 := c1.c0
  have ec1 := c1.c1
  have lc1 := c1.lt
  have dc2 := c2.c0
  have ec2 := c2.c1
  have lc2 := c2.lt
  have dc3 := c3.c0
  have ec3 := c3.c1
  have lc3 := c3.lt
  refine (ref_Mul m1 e1 m2 e2 hm1 hm2 _).mono ?_
  rw [HM.out]
  simp only [numRes]
  rintro r W2 ⟨rfl, hb2⟩
  replace hg := hg.below hb2
  replace B := up B hb2
  clear dc1 ec1 lc1
  replace c1 := c1.below hb2
  clear dc2 ec2 lc2
  replace c2 := c2.below hb2
  clear dc3 ec3 lc3
  replace c3 := c3.below hb2
  have dc1 := c1.c0
  have ec1 := c1.c1
  have lc1 := c1.lt
  have dc2 := c2.c0
  have ec2 := c2.c1
  have lc2 := c2.lt
  have dc3 := c3.c0
  have ec3 := c3.c1
  have lc3 := c3.lt
  clear hb2
  go_wp2_with fail
  clear dc1 ec1 lc1
  clear dc2 ec2 lc2
  clear dc3 ec3 lc3
  refine calls_world (fun W => Glob W ∧ Below w.heap.size w W ∧ Cell2 W (w.heap.size) (.int .i64 m1) (.int .i64 e1) ∧ Cell2 W (w.heap.size + 1) (.int .i64 m2) (.int .i64 e2) ∧ Cell2 W W1.heap.size (.int .i64 p) (.int .i64 q) ∧ Cell2 W W2.heap.size (.int .i64 p) (.int .i64 q)) ⟨hg.alloc _, up B (al1 _ _), c1.alloc _, c2.alloc _, c3.alloc _, Cell2.new _ _ _ _⟩ ?_
  clear hg B c1 c2 c3
  rintro W ⟨hg, B, c1, c2, c3, c4⟩
  have dc1 := c1.c0
  have ec1 := c1.c1
  have lc1 := c1.lt
  have dc2 := c2.c0
  have ec2 := c2.c1
  have lc2 := c2.lt
  have dc3 := c3.c0
  have ec3 := c3.c1
  have lc3 := c3.lt
  have dc4 := c4.c0
  have ec4 := c4.c1
  have lc4 := c4.lt
  refine (num_Div m1 e1 m2 e2 hm1 hm2 _ hg).mono ?_
  rw [HD.out]
  simp only [numRes]
  rintro r W3 ⟨rfl, hb3⟩
  replace hg := hg.below hb3
  replace B := up B hb3
  clear dc1 ec1 lc1
  replace c1 := c1.below hb3
  clear dc2 ec2 lc2
  replace c2 := c2.below hb3
  clear dc3 ec3 lc3
  replace c3 := c3.below hb3
  clear dc4 ec4 lc4
  replace c4 := c4.below hb3
  have dc1 := c1.c0
  have ec1 := c1.c1
  have lc1 := c1.lt
  have dc2 := c2.c0
  have ec2 := c2.c1
  have lc2 := c2.lt
  have dc3 := c3.c0
  have ec3 := c3.c1
  have lc3 := c3.lt
  have dc4 := c4.c0
  have ec4 := c4.c1
  have lc4 := c4.lt
  clear hb3
  go_wp2_with fail
  clear dc1 ec1 lc1
  clear dc2 ec2 lc2
  clear dc3 ec3 lc3
  clear dc4 ec4 lc4
  refine calls_world (fun W => Glob W ∧ Below w.heap.size w W ∧ Cell2 W (w.heap.size) (.int .i64 m1) (.int .i64 e1) ∧ Cell2 W (w.heap.size + 1) (.int .i64 m2) (.int .i64 e2) ∧ Cell2 W W1.heap.size (.int .i64 p) (.int .i64 q) ∧ Cell2 W W2.heap.size (.int .i64 p) (.int .i64 q) ∧ Cell2 W W3.heap.size (.int .i64 p') (.int .i64 q')) ⟨hg.alloc _, up B (al1 _ _), c1.alloc _, c2.alloc _, c3.alloc _, c4.alloc _, Cell2.new _ _ _ _⟩ ?_
  clear hg B c1 c2 c3 c4
  rintro W ⟨hg, B, c1, c2, c3, c4, c5⟩
  have dc1 := c1.c0
  have ec1 := c1.c1
  have lc1 := c1.lt
  have dc2 := c2.c0
  have ec2 := c2.c1
  have lc2 := c2.lt
  have dc3 := c3.c0
  have ec3 := c3.c1
  have lc3 := c3.lt
  have dc4 := c4.c0
  have ec4 := c4.c1
  have lc4 := c4.lt
  have dc5 := c5.c0
  have ec5 := c5.c1
  have lc5 := c5.lt
  refine (ref_Div m1 e1 m2 e2 hm1 hm2 _).mono ?_
  rw [HD.out]
  simp only [numRes]
  rintro r W4 ⟨rfl, hb4⟩
  replace hg := hg.below hb4
  replace B := up B hb4
  clear dc1 ec1 lc1
  replace c1 := c1.below hb4
  clear dc2 ec2 lc2
  replace c2 := c2.below hb4
  clear dc3 ec3 lc3
  replace c3 := c3.below hb4
  clear dc4 ec4 lc4
  replace c4 := c4.below hb4
  clear dc5 ec5 lc5
  replace c5 := c5.below hb4
  have dc1 := c1.c0
  have ec1 := c1.c1
  have lc1 := c1.lt
  have dc2 := c2.c0
  have ec2 := c2.c1
  have lc2 := c2.lt
  have dc3 := c3.c0
  have ec3 := c3.c1
  have lc3 := c3.lt
  have dc4 := c4.c0
  have ec4 := c4.c1
  have lc4 := c4.lt
  have dc5 := c5.c0
  have ec5 := c5.c1
  have lc5 := c5.lt
  clear hb4
  go_wp2_with fail
  clear dc1 ec1 lc1
  clear dc2 ec2 lc2
  clear dc3 ec3 lc3
  clear dc4 ec4 lc4
  clear dc5 ec5 lc5
  refine calls_world (fun W => Glob W ∧ Below w.heap.size w W ∧ Cell2 W (w.heap.size) (.int .i64 m1) (.int .i64 e1) ∧ Cell2 W (w.heap.size + 1) (.int .i64 m2) (.int .i64 e2) ∧ Cell2 W W1.heap.size (.int .i64 p) (.int .i64 q) ∧ Cell2 W W2.heap.size (.int .i64 p) (.int .i64 q) ∧ Cell2 W W3.heap.size (.int .i64 p') (.int .i64 q') ∧ Cell2 W W4.heap.size (.int .i64 p') (.int .i64 q')) ⟨hg.alloc _, up B (al1 _ _), c1.alloc _, c2.alloc _, c3.alloc _, c4.alloc _, c5.alloc _, Cell2.new _ _ _ _⟩ ?_
  clear hg B c1 c2 c3 c4 c5
  rintro W ⟨hg, B, c1, c2, c3, c4, c5, c6⟩
  have dc1 := c1.c0
  have ec1 := c1.c1
  have lc1 := c1.lt
  have dc2 := c2.c0
  have ec2 := c2.c1
  have lc2 := c2.lt
  have dc3 := c3.c0
  have ec3 := c3.c1
  have lc3 := c3.lt
  have dc4 := c4.c0
  have ec4 := c4.c1
  have lc4 := c4.lt
  have dc5 := c5.c0
  have ec5 := c5.c1
  have lc5 := c5.lt
  have dc6 := c6.c0
  have ec6 := c6.c1
  have lc6 := c6.lt
  refine (num_rem m1 e1 m2 e2 hm1 hm2 _ hg).mono ?_
  rw [HR.out]
  simp only [numRes]
  rintro r W5 ⟨rfl, hb5⟩
  replace hg := hg.below hb5
  replace B := up B hb5
  clear dc1 ec1 lc1
  replace c1 := c1.below hb5
  clear dc2 ec2 lc2
  replace c2 := c2.below hb5
  clear dc3 ec3 lc3
  replace c3 := c3.below hb5
  clear dc4 ec4 lc4
  replace c4 := c4.below hb5
  clear dc5 ec5 lc5
  replace c5 := c5.below hb5
  clear dc6 ec6 lc6
  replace c6 := c6.below hb5
  have dc1 := c1.c0
  have ec1 := c1.c1
  have lc1 := c1.lt
  have dc2 := c2.c0
  have ec2 := c2.c1
  have lc2 := c2.lt
  have dc3 := c3.c0
  have ec3 := c3.c1
  have lc3 := c3.lt
  have dc4 := c4.c0
  have ec4 := c4.c1
  have lc4 := c4.lt
  have dc5 := c5.c0
  have ec5 := c5.c1
  have lc5 := c5.lt
  have dc6 := c6.c0
  have ec6 := c6.c1
  have lc6 := c6.lt
  clear hb5
  go_wp2_with fail
  clear dc1 ec1 lc1
  clear dc2 ec2 lc2
  clear dc3 ec3 lc3
  clear dc4 ec4 lc4
  clear dc5 ec5 lc5
  clear dc6 ec6 lc6
  refine calls_world (fun W => Glob W ∧ Below w.heap.size w W ∧ Cell2 W (w.heap.size) (.int .i64 m1) (.int .i64 e1) ∧ Cell2 W (w.heap.size + 1) (.int .i64 m2) (.int .i64 e2) ∧ Cell2 W W1.heap.size (.int .i64 p) (.int .i64 q) ∧ Cell2 W W2.heap.size (.int .i64 p) (.int .i64 q) ∧ Cell2 W W3.heap.size (.int .i64 p') (.int .i64 q') ∧ Cell2 W W4.heap.size (.int .i64 p') (.int .i64 q') ∧ Cell2 W W5.heap.size (.int .i64 p'') (.int .i64 q'')) ⟨hg.alloc _, up B (al1 _ _), c1.alloc _, c2.alloc _, c3.alloc _, c4.alloc _, c5.alloc _, c6.alloc _, Cell2.new _ _ _ _⟩ ?_
  clear hg B c1 c2 c3 c4 c5 c6
  rintro W ⟨hg, B, c1, c2, c3, c4, c5, c6, c7⟩
  have dc1 := c1.c0
  have ec1 := c1.c1
  have lc1 := c1.lt
  have dc2 := c2.c0
  have ec2 := c2.c1
  have lc2 := c2.lt
  have dc3 := c3.c0
  have ec3 := c3.c1
  have lc3 := c3.lt
  have dc4 := c4.c0
  have ec4 := c4.c1
  have lc4 := c4.lt
  have dc5 := c5.c0
  have ec5 := c5.c1
  have lc5 := c5.lt
  have dc6 := c6.c0
  have ec6 := c6.c1
  have lc6 := c6.lt
  have dc7 := c7.c0
  have ec7 := c7.c1
  have lc7 := c7.lt
  refine (ref_Rem m1 e1 m2 e2 hm1 hm2 _).mono ?_
  rw [HR.out]
  simp only [numRes]
  rintro r W6 ⟨rfl, hb6⟩
  replace hg := hg.below hb6
  replace B := up B hb6
  clear dc1 ec1 lc1
  replace c1 := c1.below hb6
  clear dc2 ec2 lc2
  replace c2 := c2.below hb6
  clear dc3 ec3 lc3
  replace c3 := c3.below hb6
  clear dc4 ec4 lc4
  replace c4 := c4.below hb6
  clear dc5 ec5 lc5
  replace c5 := c5.below hb6
  clear dc6 ec6 lc6
  replace c6 := c6.below hb6
  clear dc7 ec7 lc7
  replace c7 := c7.below hb6
  have dc1 := c1.c0
  have ec1 := c1.c1
  have lc1 := c1.lt
  have dc2 := c2.c0
  have ec2 := c2.c1
  have lc2 := c2.lt
  have dc3 := c3.c0
  have ec3 := c3.c1
  have lc3 := c3.lt
  have dc4 := c4.c0
  have ec4 := c4.c1
  have lc4 := c4.lt
  have dc5 := c5.c0
  have ec5 := c5.c1
  have lc5 := c5.lt
  have dc6 := c6.c0
  have ec6 := c6.c1
  have lc6 := c6.lt
  have dc7 := c7.c0
  have ec7 := c7.c1
  have lc7 := c7.lt
  clear hb6
  go_wp2_with fail
  clear dc1 ec1 lc1
  clear dc2 ec2 lc2
  clear dc3 ec3 lc3
  clear dc4 ec4 lc4
  clear dc5 ec5 lc5
  clear dc6 ec6 lc6
  clear dc7 ec7 lc7
  refine calls_world (fun W => Glob W ∧ Below w.heap.size w W ∧ Cell2 W (w.heap.size) (.int .i64 m1) (.int .i64 e1) ∧ Cell2 W (w.heap.size + 1) (.int .i64 m2) (.int .i64 e2) ∧ Cell2 W W1.heap.size (.int .i64 p) (.int .i64 q) ∧ Cell2 W W2.heap.size (.int .i64 p) (.int .i64 q) ∧ Cell2 W W3.heap.size (.int .i64 p') (.int .i64 q') ∧ Cell2 W W4.heap.size (.int .i64 p') (.int .i64 q') ∧ Cell2 W W5.heap.size (.int .i64 p'') (.int .i64 q'') ∧ Cell2 W W6.heap.size (.int .i64 p'') (.int .i64 q'')) ⟨hg.alloc _, up B (al1 _ _), c1.alloc _, c2.alloc _, c3.alloc _, c4.alloc _, c5.alloc _, c6.alloc _, c7.alloc _, Cell2.new _ _ _ _⟩ ?_
  clear hg B c1 c2 c3 c4 c5 c6 c7
  rintro W ⟨hg, B, c1, c2, c3, c4, c5, c6, c7, c8⟩
  have dc1 := c1.c0
  have ec1 := c1.c1
  have lc1 := c1.lt
  have dc2 := c2.c0
  have ec2 := c2.c1
  have lc2 := c2.lt
  have dc3 := c3.c0
  have ec3 := c3.c1
  have lc3 := c3.lt
  have dc4 := c4.c0
  have ec4 := c4.c1
  have lc4 := c4.lt
  have dc5 := c5.c0
  have ec5 := c5.c1
  have lc5 := c5.lt
  have dc6 := c6.c0
  have ec6 := c6.c1
  have lc6 := c6.lt
  have dc7 := c7.c0
  have ec7 := c7.c1
  have lc7 := c7.lt
  have dc8 := c8.c0
  have ec8 := c8.c1
  have lc8 := c8.lt
  refine (num_works _ hg).mono ?_
  rintro r W7 ⟨rfl, hb7⟩
  replace hg := hg.below hb7
  replace B := up B hb7
  clear dc1 ec1 lc1
  replace c1 := c1.below hb7
  clear dc2 ec2 lc2
  replace c2 := c2.below hb7
  clear dc3 ec3 lc3
  replace c3 := c3.below hb7
  clear dc4 ec4 lc4
  replace c4 := c4.below hb7
  clear dc5 ec5 lc5
  replace c5 := c5.below hb7
  clear dc6 ec6 lc6
  replace c6 := c6.below hb7
  clear dc7 ec7 lc7
  replace c7 := c7.below hb7
  clear dc8 ec8 lc8
  replace c8 := c8.below hb7
  have dc1 := c1.c0
  have ec1 := c1.c1
  have lc1 := c1.lt
  have dc2 := c2.c0
  have ec2 := c2.c1
  have lc2 := c2.lt
  have dc3 := c3.c0
  have ec3 := c3.c1
  have lc3 := c3.lt
  have dc4 := c4.c0
  have ec4 := c4.c1
  have lc4 := c4.lt
  have dc5 := c5.c0
  have ec5 := c5.c1
  have lc5 := c5.lt
  have dc6 := c6.c0
  have ec6 := c6.c1
  have lc6 := c6.lt
  have dc7 := c7.c0
  have ec7 := c7.c1
  have lc7 := c7.lt
  have dc8 := c8.c0
  have ec8 := c8.c1
  have lc8 := c8.lt
  clear hb7
  go_wp2
  go_ret
  exact ⟨rfl, B⟩

theorem law_mults (m1 e1 m2 e2 : Int) (hm1 : I64 m1) (hm2 : I64 m2) (w : World) (hg : Glob w) :
    Calls Tryd.prog 11 #[.agg #[.int .i64 m1, .int .i64 e1], .agg #[.int .i64 m2, .int .i64 e2]] w fun r w' => r = .returned (.bool true) ∧ Below w.heap.size w w' := by
  obtain ⟨⟨⟨p, q⟩, k⟩, hM⟩ : ∃ p, mulN m1 e1 m2 e2 = p := ⟨_, rfl⟩
  obtain ⟨⟨⟨p', q'⟩, k'⟩, hD⟩ : ∃ p, divN m1 e1 m2 e2 = p := ⟨_, rfl⟩
  obtain ⟨⟨⟨p'', q''⟩, k''⟩, hR⟩ : ∃ p, remN m1 e1 m2 e2 = p := ⟨_, rfl⟩
  exact mults_all m1 e1 m2 e2 hm1 hm2 p q k p' q' k' p'' q'' k'' hM hD hR w hg
end Go.Proofs.YtljemfajjeoecaaDoor
