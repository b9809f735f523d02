/- The contracts of num.wrong, Sub, Mul. Conditions: Glob; the numbers are of int64 and int. -/
import Derived.Test.YtljemfajjeoecaaDoorMade
import Derived.Test.YtljemfajjeoecaaDoorLib
import Derived.Test.YtljemfajjeoecaaDoorNumMath
namespace Go.Proofs.YtljemfajjeoecaaDoor
open Go Go.RowKit Go.Proofs Th
attribute [local go_sem] Above.cell Above.frozen

def wrongS (m1 e1 m2 e2 : Int) : Int := if (right m1 e1 && right m2 e2) = false then 10 else if m2 = 0 then 12 else 0

/-- a number of int64 and int -/
structure I64 (m : Int) : Prop where
  lo : -9223372036854775808 ≤ m
  hi : m ≤ 9223372036854775807

theorem zero_of_right {m e : Int} (h : right m e = true) : (m == 0 && e == 0) = (m == 0) := by
  by_cases hm : m = 0
  · subst hm; simp [right] at h; simp [h]
  · simp [hm]

theorem num_wrong (m1 e1 m2 e2 : Int) (hm1 : I64 m1) (hm2 : I64 m2) (w : World) (hg : Glob w) : Calls Tryd.prog 75 #[.agg #[.int .i64 m1, .int .i64 e1], .agg #[.int .i64 m2, .int .i64 e2]] w fun r w' =>
    r = .returned (.int .i64 (wrongS m1 e1 m2 e2)) ∧ Below w.heap.size w w' := by
  cases h1 : right m1 e1
  · have HF := Keep.mk (show wrongS m1 e1 m2 e2 = 10 by unfold wrongS; simp [h1])
    go_enter Tryd.func75, Tryd.ntmps75
    go_wp2_with (go_at_call 30; refine (num_Right m1 e1 hm1.lo hm1.hi _ (hg.below (al2 _ _ _))).mono ?_; rw [h1]; rintro r w1 ⟨rfl, hb⟩; obtain ⟨hc, hf⟩ := bcell hb)
    go_ret
    exact ⟨ret_i64 HF.out.symm, up (al2 _ _ _) hb⟩
  · cases h2 : right m2 e2
    · have HF := Keep.mk (show wrongS m1 e1 m2 e2 = 10 by unfold wrongS; simp [h2])
      go_enter Tryd.func75, Tryd.ntmps75
      go_wp2_with fail
      refine (num_Right m1 e1 hm1.lo hm1.hi _ (hg.below (al2 _ _ _))).mono ?_
      rw [h1]; rintro r w1 ⟨rfl, hb⟩
      have hg1 := hg.below (up (al2 _ _ _) hb)
      obtain ⟨hc, hf⟩ := bcell hb
      go_wp2_with fail
      refine (num_Right m2 e2 hm2.lo hm2.hi _ hg1).mono ?_
      rw [h2]; rintro r w2 ⟨rfl, hb2⟩
      go_wp2
      go_ret
      exact ⟨ret_i64 HF.out.symm, up (up (al2 _ _ _) hb) hb2⟩
    · have HF := Keep.mk (show wrongS m1 e1 m2 e2 = if (m2 == 0) = true then 12 else 0 by unfold wrongS; simp [h1, h2])
      have hz := zero_of_right h2
      go_enter Tryd.func75, Tryd.ntmps75
      go_wp2_with fail
      refine (num_Right m1 e1 hm1.lo hm1.hi _ (hg.below (al2 _ _ _))).mono ?_
      rw [h1]; rintro r w1 ⟨rfl, hb⟩
      have hg1 := hg.below (up (al2 _ _ _) hb)
      obtain ⟨hc, hf⟩ := bcell hb
      go_wp2_with fail
      refine (num_Right m2 e2 hm2.lo hm2.hi _ hg1).mono ?_
      rw [h2]; rintro r w2 ⟨rfl, hb2⟩
      have hb3 := up hb hb2
      clear hc hf
      obtain ⟨hc, hf⟩ := bcell hb3
      go_wp2_with fail
      refine wp_region_from hb3 (by kernel_rfl) (by kernel_rfl) ?_
      repeat (go_big_quiet_step ((go_at_call 55; exact calls_above (num_zero _))))
      refine wpQuiet_nil ?_
      rintro _ ⟨x, rfl⟩
      have hb4 := up (al2 _ _ _) x.property
      cases h3 : (m2 == 0)
      all_goals
        rw [h3] at hz HF
        go_wp2
        go_ret
        exact ⟨ret_i64 HF.out.symm, hb4⟩
end Go.Proofs.YtljemfajjeoecaaDoor
