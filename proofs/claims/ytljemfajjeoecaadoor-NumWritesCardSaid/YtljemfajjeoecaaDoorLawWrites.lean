/- thimblelaw01.NumWrites. Conditions: Glob; the number is of int64. -/
import Derived.Test.YtljemfajjeoecaaDoorWorks
import Derived.Test.YtljemfajjeoecaaDoorLaw
import Derived.Test.YtljemfajjeoecaaDoorRefPrint
namespace Go.Proofs.YtljemfajjeoecaaDoor
open Go Go.RowKit Go.Proofs Th
attribute [local go_sem] Above.cell Above.frozen

theorem above_glob {W : World} (hg : Glob W) (x : Above W) : Glob x.val := hg.below x.property
set_option maxRecDepth 100000 in
theorem writes_all (m e : Int) (hm : I64 m) (l : List UInt8) (c : Int) (hP : printN m e = (l, c)) (w : World) (hg : Glob w) :
    Calls Tryd.prog 7 #[.agg #[.int .i64 m, .int .i64 e]] w fun r w' => r = .returned (.bool true) ∧ Below w.heap.size w w' := by
  have HP := Keep.mk hP
  clear hP
  go_enter Tryd.func7, Tryd.ntmps7
  go_wp2_with fail
  refine calls_world (fun W => Glob W ∧ Below w.heap.size w W ∧ Cell2 W (w.heap.size) (.int .i64 m) (.int .i64 e)) ⟨hg.below (al1 w _), al1 w _, (Cell2.newAt (by simp))⟩ ?_
  clear hg
  rintro W ⟨hg, B, c1⟩
  have dc1 := c1.c0
  have ec1 := c1.c1
  have lc1 := c1.lt
  refine (num_print m e hm _ hg).mono ?_
  rw [HP.out]
  simp only [printRes]
  rintro r W1 ⟨rfl, hb1⟩
  replace hg := hg.below hb1
  replace B := up B hb1
  clear dc1 ec1 lc1
  replace c1 := c1.below hb1
  have dc1 := c1.c0
  have ec1 := c1.c1
  have lc1 := c1.lt
  clear hb1
  go_wp2_with fail
  refine (ref_Print m e hm _).mono ?_
  rw [HP.out]
  simp only [printRes]
  rintro r W2 ⟨rfl, hb2⟩
  replace hg := hg.below hb2
  replace B := up B hb2
  clear dc1 ec1 lc1
  replace c1 := c1.below hb2
  have dc1 := c1.c0
  have ec1 := c1.c1
  have lc1 := c1.lt
  clear hb2
  go_wp2_with fail
  refine wp_region_above (by kernel_rfl) (by kernel_rfl) ?_
  repeat (go_big_quiet_step ((first | (go_at_call 30; exact calls_above (num_Right m e hm.lo hm.hi _ (above_glob hg _))) | (go_at_call 31; exact calls_above (ref_Right m e hm _)) | (go_at_call 24; exact calls_above (num_works _ (above_glob hg _))))))
  refine wpQuiet_nil ?_
  rintro _ ⟨x, rfl⟩
  go_wp2
  go_ret
  exact ⟨by simp, up B x.property⟩

theorem law_writes (m e : Int) (hm : I64 m) (w : World) (hg : Glob w) :
    Calls Tryd.prog 7 #[.agg #[.int .i64 m, .int .i64 e]] w fun r w' => r = .returned (.bool true) ∧ Below w.heap.size w w' := by
  obtain ⟨⟨l, c⟩, hP⟩ : ∃ p, printN m e = p := ⟨_, rfl⟩
  exact writes_all m e hm l c hP w hg
end Go.Proofs.YtljemfajjeoecaaDoor
