/- thimblelaw01.works. Conditions: Glob. -/
import Derived.Test.YtljemfajjeoecaaDoorWorksMath
import Derived.Test.YtljemfajjeoecaaDoorLaw
import Derived.Test.YtljemfajjeoecaaDoorMul
namespace Go.Proofs.YtljemfajjeoecaaDoor
open Go Go.RowKit Go.Proofs Th
attribute [local go_sem] Above.cell Above.frozen

theorem works_c1 (w : World) (hg : Glob w) : Calls Tryd.prog 25 #[.string ⟨#[49, 50, 48, 48, 101, 45, 51]⟩] w fun r w' => r = .returned (.tuple #[.agg #[.int .i64 12, .int .i64 (-1)], .int .i64 0]) ∧ Below w.heap.size w w' := by
  have h := num_Parse ⟨#[49, 50, 48, 48, 101, 45, 51]⟩ (by decide) w hg
  rw [show parseN (⟨#[49, 50, 48, 48, 101, 45, 51]⟩ : ByteArray).data.toList = ((12, -1), 0) from works_parse] at h
  exact h
theorem works_c2 (w : World) (hg : Glob w) : Calls Tryd.prog 28 #[.agg #[.int .i64 12, .int .i64 (-1)]] w fun r w' => r = .returned (.tuple #[.string ⟨#[49, 46, 50]⟩, .int .i64 0]) ∧ Below w.heap.size w w' := by
  have h := num_print 12 (-1) ⟨by decide, by decide⟩ w hg
  rw [works_print] at h
  exact h
theorem works_c3 (w : World) (hg : Glob w) : Calls Tryd.prog 32 #[.agg #[.int .i64 999999999999999999, .int .i64 0], .agg #[.int .i64 1, .int .i64 0]] w fun r w' => r = .returned (.tuple #[.agg #[.int .i64 1, .int .i64 18], .int .i64 0]) ∧ Below w.heap.size w w' := by
  have h := num_add 999999999999999999 0 1 0 ⟨by decide, by decide⟩ ⟨by decide, by decide⟩ w hg
  rw [works_add] at h
  exact h
theorem works_c4 (w : World) (hg : Glob w) : Calls Tryd.prog 35 #[.agg #[.int .i64 1, .int .i64 0], .agg #[.int .i64 8, .int .i64 0]] w fun r w' => r = .returned (.tuple #[.agg #[.int .i64 125, .int .i64 (-3)], .int .i64 0]) ∧ Below w.heap.size w w' := by
  have h := num_Div 1 0 8 0 ⟨by decide, by decide⟩ ⟨by decide, by decide⟩ w hg
  rw [works_div8] at h
  exact h
theorem works_c5 (w : World) (hg : Glob w) : Calls Tryd.prog 35 #[.agg #[.int .i64 1, .int .i64 0], .agg #[.int .i64 3, .int .i64 0]] w fun r w' => r = .returned (.tuple #[.agg #[.int .i64 0, .int .i64 0], .int .i64 11]) ∧ Below w.heap.size w w' := by
  have h := num_Div 1 0 3 0 ⟨by decide, by decide⟩ ⟨by decide, by decide⟩ w hg
  rw [works_div3] at h
  exact h

set_option maxRecDepth 100000 in
/-- the chapter's examples hold -/
theorem num_works (w : World) (hg : Glob w) : Calls Tryd.prog 24 #[] w fun r w' => r = .returned (.bool true) ∧ Below w.heap.size w w' := by
  go_enter Tryd.func24, Tryd.ntmps24
  go_wp2_with fail
  refine calls_world (fun W => Glob W ∧ Below w.heap.size w W) ⟨hg, Below.refl _ _⟩ ?_
  rintro W ⟨hg, B⟩
  refine (works_c1 _ hg).mono ?_
  rintro r W1 ⟨rfl, hb1⟩
  replace hg := hg.below hb1
  replace B := up B hb1
  clear hb1
  go_wp2_with fail
  refine calls_world (fun W => Glob W ∧ Below w.heap.size w W ∧ Cell2 W W1.heap.size (.int .i64 12) (.int .i64 (-1))) ⟨hg.alloc _, up B (al1 _ _), Cell2.new _ _ _ _⟩ ?_
  clear hg B
  rintro W ⟨hg, B, c1⟩
  have dc1 := c1.c0
  have ec1 := c1.c1
  have lc1 := c1.lt
  refine (works_c2 _ hg).mono ?_
  rintro r W2 ⟨rfl, hb2⟩
  replace hg := hg.below hb2
  replace B := up B hb2
  clear dc1 ec1 lc1
  replace c1 := c1.below hb2
  have dc1 := c1.c0
  have ec1 := c1.c1
  have lc1 := c1.lt
  clear hb2
  go_wp2_with fail
  refine (works_c3 _ hg).mono ?_
  rintro r W3 ⟨rfl, hb3⟩
  replace hg := hg.below hb3
  replace B := up B hb3
  clear dc1 ec1 lc1
  replace c1 := c1.below hb3
  have dc1 := c1.c0
  have ec1 := c1.c1
  have lc1 := c1.lt
  clear hb3
  go_wp2_with fail
  clear dc1 ec1 lc1
  refine calls_world (fun W => Glob W ∧ Below w.heap.size w W ∧ Cell2 W W1.heap.size (.int .i64 12) (.int .i64 (-1)) ∧ Cell2 W W3.heap.size (.int .i64 1) (.int .i64 18)) ⟨hg.alloc _, up B (al1 _ _), c1.alloc _, Cell2.new _ _ _ _⟩ ?_
  clear hg B c1
  rintro W ⟨hg, B, c1, c3⟩
  have dc1 := c1.c0
  have ec1 := c1.c1
  have lc1 := c1.lt
  have dc3 := c3.c0
  have ec3 := c3.c1
  have lc3 := c3.lt
  refine (works_c4 _ hg).mono ?_
  rintro r W4 ⟨rfl, hb4⟩
  replace hg := hg.below hb4
  replace B := up B hb4
  clear dc1 ec1 lc1
  replace c1 := c1.below hb4
  clear dc3 ec3 lc3
  replace c3 := c3.below hb4
  have dc1 := c1.c0
  have ec1 := c1.c1
  have lc1 := c1.lt
  have dc3 := c3.c0
  have ec3 := c3.c1
  have lc3 := c3.lt
  clear hb4
  go_wp2_with fail
  clear dc1 ec1 lc1
  clear dc3 ec3 lc3
  refine calls_world (fun W => Glob W ∧ Below w.heap.size w W ∧ Cell2 W W1.heap.size (.int .i64 12) (.int .i64 (-1)) ∧ Cell2 W W3.heap.size (.int .i64 1) (.int .i64 18) ∧ Cell2 W W4.heap.size (.int .i64 125) (.int .i64 (-3))) ⟨hg.alloc _, up B (al1 _ _), c1.alloc _, c3.alloc _, Cell2.new _ _ _ _⟩ ?_
  clear hg B c1 c3
  rintro W ⟨hg, B, c1, c3, c4⟩
  have dc1 := c1.c0
  have ec1 := c1.c1
  have lc1 := c1.lt
  have dc3 := c3.c0
  have ec3 := c3.c1
  have lc3 := c3.lt
  have dc4 := c4.c0
  have ec4 := c4.c1
  have lc4 := c4.lt
  refine (works_c5 _ hg).mono ?_
  rintro r W5 ⟨rfl, hb5⟩
  replace hg := hg.below hb5
  replace B := up B hb5
  clear dc1 ec1 lc1
  replace c1 := c1.below hb5
  clear dc3 ec3 lc3
  replace c3 := c3.below hb5
  clear dc4 ec4 lc4
  replace c4 := c4.below hb5
  have dc1 := c1.c0
  have ec1 := c1.c1
  have lc1 := c1.lt
  have dc3 := c3.c0
  have ec3 := c3.c1
  have lc3 := c3.lt
  have dc4 := c4.c0
  have ec4 := c4.c1
  have lc4 := c4.lt
  clear hb5
  go_wp2
  go_ret
  exact ⟨rfl, up B (al1 _ _)⟩
end Go.Proofs.YtljemfajjeoecaaDoor
