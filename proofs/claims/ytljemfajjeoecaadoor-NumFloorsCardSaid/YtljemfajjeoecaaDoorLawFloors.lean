/- thimblelaw01.NumFloors. Conditions: Glob; the number is of int64. -/
import Derived.Test.YtljemfajjeoecaaDoorWorks
import Derived.Test.YtljemfajjeoecaaDoorLaw
import Derived.Test.YtljemfajjeoecaaDoorRefFloor
namespace Go.Proofs.YtljemfajjeoecaaDoor
open Go Go.RowKit Go.Proofs Th
attribute [local go_sem] Above.cell Above.frozen

set_option maxRecDepth 100000 in
theorem floors_all (m e : Int) (hm : I64 m) (p q k : Int) (hF : floorN m e = ((p, q), k)) (w : World) (hg : Glob w) :
    Calls Tryd.prog 10 #[.agg #[.int .i64 m, .int .i64 e]] w fun r w' => r = .returned (.bool true) ∧ Below w.heap.size w w' := by
  have HF := Keep.mk hF
  clear hF
  go_enter Tryd.func10, Tryd.ntmps10
  go_wp2_with fail
  refine calls_world (fun W => Glob W ∧ Below w.heap.size w W ∧ Cell2 W (w.heap.size) (.int .i64 m) (.int .i64 e)) ⟨hg.below (al1 w _), al1 w _, (Cell2.newAt (by simp))⟩ ?_
  clear hg
  rintro W ⟨hg, B, c1⟩
  have dc1 := c1.c0
  have ec1 := c1.c1
  have lc1 := c1.lt
  refine (num_floor m e hm _ hg).mono ?_
  rw [HF.out]
  simp only [numRes]
  rintro r W1 ⟨rfl, hb1⟩
  replace hg := hg.below hb1
  replace B := up B hb1
  clear dc1 ec1 lc1
  replace c1 := c1.below hb1
  have dc1 := c1.c0
  have ec1 := c1.c1
  have lc1 := c1.lt
  clear hb1
  go_wp2_with fail
  clear dc1 ec1 lc1
  refine calls_world (fun W => Glob W ∧ Below w.heap.size w W ∧ Cell2 W (w.heap.size) (.int .i64 m) (.int .i64 e) ∧ Cell2 W W1.heap.size (.int .i64 p) (.int .i64 q)) ⟨hg.alloc _, up B (al1 _ _), c1.alloc _, Cell2.new _ _ _ _⟩ ?_
  clear hg B c1
  rintro W ⟨hg, B, c1, c3⟩
  have dc1 := c1.c0
  have ec1 := c1.c1
  have lc1 := c1.lt
  have dc3 := c3.c0
  have ec3 := c3.c1
  have lc3 := c3.lt
  refine (ref_Floor m e hm _).mono ?_
  rw [HF.out]
  simp only [numRes]
  rintro r W2 ⟨rfl, hb2⟩
  replace hg := hg.below hb2
  replace B := up B hb2
  clear dc1 ec1 lc1
  replace c1 := c1.below hb2
  clear dc3 ec3 lc3
  replace c3 := c3.below hb2
  have dc1 := c1.c0
  have ec1 := c1.c1
  have lc1 := c1.lt
  have dc3 := c3.c0
  have ec3 := c3.c1
  have lc3 := c3.lt
  clear hb2
  go_wp2_with fail
  clear dc1 ec1 lc1
  clear dc3 ec3 lc3
  refine calls_world (fun W => Glob W ∧ Below w.heap.size w W ∧ Cell2 W (w.heap.size) (.int .i64 m) (.int .i64 e) ∧ Cell2 W W1.heap.size (.int .i64 p) (.int .i64 q) ∧ Cell2 W W2.heap.size (.int .i64 p) (.int .i64 q)) ⟨hg.alloc _, up B (al1 _ _), c1.alloc _, c3.alloc _, Cell2.new _ _ _ _⟩ ?_
  clear hg B c1 c3
  rintro W ⟨hg, B, c1, c3, c4⟩
  have dc1 := c1.c0
  have ec1 := c1.c1
  have lc1 := c1.lt
  have dc3 := c3.c0
  have ec3 := c3.c1
  have lc3 := c3.lt
  have dc4 := c4.c0
  have ec4 := c4.c1
  have lc4 := c4.lt
  refine (num_works _ hg).mono ?_
  rintro r W3 ⟨rfl, hb3⟩
  replace hg := hg.below hb3
  replace B := up B hb3
  clear dc1 ec1 lc1
  replace c1 := c1.below hb3
  clear dc3 ec3 lc3
  replace c3 := c3.below hb3
  clear dc4 ec4 lc4
  replace c4 := c4.below hb3
  have dc1 := c1.c0
  have ec1 := c1.c1
  have lc1 := c1.lt
  have dc3 := c3.c0
  have ec3 := c3.c1
  have lc3 := c3.lt
  have dc4 := c4.c0
  have ec4 := c4.c1
  have lc4 := c4.lt
  clear hb3
  go_wp2
  go_ret
  exact ⟨rfl, B⟩

theorem law_floors (m e : Int) (hm : I64 m) (w : World) (hg : Glob w) :
    Calls Tryd.prog 10 #[.agg #[.int .i64 m, .int .i64 e]] w fun r w' => r = .returned (.bool true) ∧ Below w.heap.size w w' := by
  obtain ⟨⟨⟨p, q⟩, k⟩, hF⟩ : ∃ p, floorN m e = p := ⟨_, rfl⟩
  exact floors_all m e hm p q k hF w hg
end Go.Proofs.YtljemfajjeoecaaDoor
