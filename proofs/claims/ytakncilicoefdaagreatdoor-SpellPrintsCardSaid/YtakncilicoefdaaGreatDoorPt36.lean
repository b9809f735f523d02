/- Lemmas and contracts. Conditions: those that each lemma names. -/
import Derived.Test.YtakncilicoefdaaGreatDoorPt34
set_option maxRecDepth 100000
set_option maxHeartbeats 40000000
namespace Go.Proofs.YtakncilicoefdaaGreatDoor
open Go Go.RowKit Go.Proofs Th
set_option maxRecDepth 8000
attribute [local go_sem] sel
variable {G : World → CS → Prop}
theorem Vf (gk : GK G) (n : NJ) : ACalls Tryz.prog G 42 none [.agg (Ag n)] (.ret (bI (Ax n)) []) := by
 have heq := NX; obtain ⟨k1, t1, m1, q1, l1, b1⟩ := n; obtain ⟨z, hz⟩ : ∃ z, Ax (.mk k1 t1 m1 q1 l1 b1) = z := ⟨_, rfl⟩
 rw [hz]; have hr : ∀ r : List ByteArray, ¬ ((r.length : Int) + 1 = 0) := fun r => by omega
 refine ACalls.enter Tryz.func42 rfl rfl gk Tryz.ntmps42 fun X F => ?_
 by_cases g3 : k1 = 3
 ·subst g3
  (iterate 3 apply Ar F;go_simp);(repeat apply Aq);apply Ab;apply Ar F;go_simp;(repeat apply Aq);refine At (by go_simp) ?_;apply As;go_simp;(repeat apply Aq);refine At (by go_simp) ?_;refine AW.prune [1, 3] [1000, 1] (by decide) ?_;go_simp;by_cases hm : m1 = 0
  ·subst hm
   by_cases hq : q1 = 0
   ·subst hq
    rcases b1 with _ | ⟨x, r⟩
    ·have hz2 : z = true := by rw [← hz]; simp [Ax, Am, *]
     subst hz2; apply Ar F; go_simp; (repeat apply Aq); refine Ah F [0, 1, 2, 3] [4, 5, 6, 7, 8, 9, 10, 11, 12, 13, 14, 15, 16, 17, 18, 19, 20, 21, 22, 23, 24, 25, 26, 27, 28, 29, 30, 31, 32, 33] (by rfl) ?_; go_simp; apply lK 4; go_simp; apply lK 8; go_simp; apply lK 8; go_simp; refine Ac ?_; go_simp; apply Au; go_simp
    have hz2 : z = false := by rw [← hz]; simp [Ax, Am, *]
    subst hz2; apply Ar F; go_simp; (repeat apply Aq); refine Ah F [0, 1, 2, 3] [4, 5, 6, 7, 8, 9, 10, 11, 12, 13, 14, 15, 16, 17, 18, 19, 20, 21, 22, 23, 24, 25, 26, 27, 28, 29, 30, 31, 32, 33] (by rfl) ?_; go_simp; apply lK 4; go_simp; apply lK 8; go_simp; apply lK 8; go_simp; refine Ac ?_; go_simp; apply Au; go_simp
   have hz2 : z = false := by rw [← hz]; simp [Ax, Am, *]
   subst hz2; apply Ar F; go_simp; (repeat apply Aq); refine Ah F [0, 1, 2, 3] [4, 5, 6, 7, 8, 9, 10, 11, 12, 13, 14, 15, 16, 17, 18, 19, 20, 21, 22, 23, 24, 25, 26, 27, 28, 29, 30, 31, 32, 33] (by rfl) ?_; go_simp; apply lK 4; go_simp; apply lK 8; go_simp; apply lK 8; go_simp; refine Ac ?_; go_simp; apply Au; go_simp
  have hz2 : z = false := by rw [← hz]; simp [Ax, Am, *]
  subst hz2; apply Ar F; go_simp; (repeat apply Aq); refine Ah F [0, 1, 2, 3] [4, 5, 6, 7, 8, 9, 10, 11, 12, 13, 14, 15, 16, 17, 18, 19, 20, 21, 22, 23, 24, 25, 26, 27, 28, 29, 30, 31, 32, 33] (by rfl) ?_; go_simp; apply lK 4; go_simp; apply lK 8; go_simp; apply lK 8; go_simp; refine Ac ?_; go_simp; apply Au; go_simp
 by_cases g10 : k1 = 10
 ·subst g10
  (iterate 3 apply Ar F;go_simp);(repeat apply Aq);apply Ab;apply Ar F;go_simp;(repeat apply Aq);refine Af (by go_simp) ?_;apply Ar F;go_simp;(repeat apply Aq);refine At (by go_simp) ?_;apply As;go_simp;(repeat apply Aq);refine At (by go_simp) ?_;refine AW.prune [1, 3] [1000, 1] (by decide) ?_;go_simp;by_cases hm : m1 = 0
  ·subst hm
   by_cases hq : q1 = 0
   ·subst hq
    rcases b1 with _ | ⟨x, r⟩
    ·have hz2 : z = true := by rw [← hz]; simp [Ax, Am, *]
     subst hz2; apply Ar F; go_simp; (repeat apply Aq); refine Ah F [0, 1, 2, 3] [4, 5, 6, 7, 8, 9, 10, 11, 12, 13, 14, 15, 16, 17, 18, 19, 20, 21, 22, 23, 24, 25, 26, 27, 28, 29, 30, 31, 32, 33] (by rfl) ?_; go_simp; apply lK 4; go_simp; apply lK 8; go_simp; apply lK 8; go_simp; refine Ac ?_; go_simp; apply Au; go_simp
    have hz2 : z = false := by rw [← hz]; simp [Ax, Am, *]
    subst hz2; apply Ar F; go_simp; (repeat apply Aq); refine Ah F [0, 1, 2, 3] [4, 5, 6, 7, 8, 9, 10, 11, 12, 13, 14, 15, 16, 17, 18, 19, 20, 21, 22, 23, 24, 25, 26, 27, 28, 29, 30, 31, 32, 33] (by rfl) ?_; go_simp; apply lK 4; go_simp; apply lK 8; go_simp; apply lK 8; go_simp; refine Ac ?_; go_simp; apply Au; go_simp
   have hz2 : z = false := by rw [← hz]; simp [Ax, Am, *]
   subst hz2; apply Ar F; go_simp; (repeat apply Aq); refine Ah F [0, 1, 2, 3] [4, 5, 6, 7, 8, 9, 10, 11, 12, 13, 14, 15, 16, 17, 18, 19, 20, 21, 22, 23, 24, 25, 26, 27, 28, 29, 30, 31, 32, 33] (by rfl) ?_; go_simp; apply lK 4; go_simp; apply lK 8; go_simp; apply lK 8; go_simp; refine Ac ?_; go_simp; apply Au; go_simp
  have hz2 : z = false := by rw [← hz]; simp [Ax, Am, *]
  subst hz2; apply Ar F; go_simp; (repeat apply Aq); refine Ah F [0, 1, 2, 3] [4, 5, 6, 7, 8, 9, 10, 11, 12, 13, 14, 15, 16, 17, 18, 19, 20, 21, 22, 23, 24, 25, 26, 27, 28, 29, 30, 31, 32, 33] (by rfl) ?_; go_simp; apply lK 4; go_simp; apply lK 8; go_simp; apply lK 8; go_simp; refine Ac ?_; go_simp; apply Au; go_simp
 by_cases g19 : k1 = 19
 ·subst g19
  (iterate 3 apply Ar F;go_simp);(repeat apply Aq);apply Ab;(iterate 2 apply Ar F;go_simp;(repeat apply Aq);refine Af (by go_simp) ?_);apply Ar F;go_simp;(repeat apply Aq);refine At (by go_simp) ?_;apply As;go_simp;(repeat apply Aq);refine At (by go_simp) ?_;refine AW.prune [1, 3] [1000, 1] (by decide) ?_;go_simp;by_cases hm : m1 = 0
  ·subst hm
   by_cases hq : q1 = 0
   ·subst hq
    rcases b1 with _ | ⟨x, r⟩
    ·have hz2 : z = true := by rw [← hz]; simp [Ax, Am, *]
     subst hz2; apply Ar F; go_simp; (repeat apply Aq); refine Ah F [0, 1, 2, 3] [4, 5, 6, 7, 8, 9, 10, 11, 12, 13, 14, 15, 16, 17, 18, 19, 20, 21, 22, 23, 24, 25, 26, 27, 28, 29, 30, 31, 32, 33] (by rfl) ?_; go_simp; apply lK 4; go_simp; apply lK 8; go_simp; apply lK 8; go_simp; refine Ac ?_; go_simp; apply Au; go_simp
    have hz2 : z = false := by rw [← hz]; simp [Ax, Am, *]
    subst hz2; apply Ar F; go_simp; (repeat apply Aq); refine Ah F [0, 1, 2, 3] [4, 5, 6, 7, 8, 9, 10, 11, 12, 13, 14, 15, 16, 17, 18, 19, 20, 21, 22, 23, 24, 25, 26, 27, 28, 29, 30, 31, 32, 33] (by rfl) ?_; go_simp; apply lK 4; go_simp; apply lK 8; go_simp; apply lK 8; go_simp; refine Ac ?_; go_simp; apply Au; go_simp
   have hz2 : z = false := by rw [← hz]; simp [Ax, Am, *]
   subst hz2; apply Ar F; go_simp; (repeat apply Aq); refine Ah F [0, 1, 2, 3] [4, 5, 6, 7, 8, 9, 10, 11, 12, 13, 14, 15, 16, 17, 18, 19, 20, 21, 22, 23, 24, 25, 26, 27, 28, 29, 30, 31, 32, 33] (by rfl) ?_; go_simp; apply lK 4; go_simp; apply lK 8; go_simp; apply lK 8; go_simp; refine Ac ?_; go_simp; apply Au; go_simp
  have hz2 : z = false := by rw [← hz]; simp [Ax, Am, *]
  subst hz2; apply Ar F; go_simp; (repeat apply Aq); refine Ah F [0, 1, 2, 3] [4, 5, 6, 7, 8, 9, 10, 11, 12, 13, 14, 15, 16, 17, 18, 19, 20, 21, 22, 23, 24, 25, 26, 27, 28, 29, 30, 31, 32, 33] (by rfl) ?_; go_simp; apply lK 4; go_simp; apply lK 8; go_simp; apply lK 8; go_simp; refine Ac ?_; go_simp; apply Au; go_simp
 by_cases g20 : k1 = 20
 ·subst g20
  (iterate 3 apply Ar F;go_simp);(repeat apply Aq);apply Ab;(iterate 3 apply Ar F;go_simp;(repeat apply Aq);refine Af (by go_simp) ?_);apply Ar F;go_simp;(repeat apply Aq);refine At (by go_simp) ?_;apply As;go_simp;(repeat apply Aq);refine At (by go_simp) ?_;refine AW.prune [1, 3] [1000, 1] (by decide) ?_;go_simp;by_cases hm : m1 = 0
  ·subst hm
   by_cases hq : q1 = 0
   ·subst hq
    rcases b1 with _ | ⟨x, r⟩
    ·have hz2 : z = true := by rw [← hz]; simp [Ax, Am, *]
     subst hz2; apply Ar F; go_simp; (repeat apply Aq); refine Ah F [0, 1, 2, 3] [4, 5, 6, 7, 8, 9, 10, 11, 12, 13, 14, 15, 16, 17, 18, 19, 20, 21, 22, 23, 24, 25, 26, 27, 28, 29, 30, 31, 32, 33] (by rfl) ?_; go_simp; apply lK 4; go_simp; apply lK 8; go_simp; apply lK 8; go_simp; refine Ac ?_; go_simp; apply Au; go_simp
    have hz2 : z = false := by rw [← hz]; simp [Ax, Am, *]
    subst hz2; apply Ar F; go_simp; (repeat apply Aq); refine Ah F [0, 1, 2, 3] [4, 5, 6, 7, 8, 9, 10, 11, 12, 13, 14, 15, 16, 17, 18, 19, 20, 21, 22, 23, 24, 25, 26, 27, 28, 29, 30, 31, 32, 33] (by rfl) ?_; go_simp; apply lK 4; go_simp; apply lK 8; go_simp; apply lK 8; go_simp; refine Ac ?_; go_simp; apply Au; go_simp
   have hz2 : z = false := by rw [← hz]; simp [Ax, Am, *]
   subst hz2; apply Ar F; go_simp; (repeat apply Aq); refine Ah F [0, 1, 2, 3] [4, 5, 6, 7, 8, 9, 10, 11, 12, 13, 14, 15, 16, 17, 18, 19, 20, 21, 22, 23, 24, 25, 26, 27, 28, 29, 30, 31, 32, 33] (by rfl) ?_; go_simp; apply lK 4; go_simp; apply lK 8; go_simp; apply lK 8; go_simp; refine Ac ?_; go_simp; apply Au; go_simp
  have hz2 : z = false := by rw [← hz]; simp [Ax, Am, *]
  subst hz2; apply Ar F; go_simp; (repeat apply Aq); refine Ah F [0, 1, 2, 3] [4, 5, 6, 7, 8, 9, 10, 11, 12, 13, 14, 15, 16, 17, 18, 19, 20, 21, 22, 23, 24, 25, 26, 27, 28, 29, 30, 31, 32, 33] (by rfl) ?_; go_simp; apply lK 4; go_simp; apply lK 8; go_simp; apply lK 8; go_simp; refine Ac ?_; go_simp; apply Au; go_simp
 by_cases g21 : k1 = 21
 ·subst g21
  (iterate 3 apply Ar F;go_simp);(repeat apply Aq);apply Ab;(iterate 4 apply Ar F;go_simp;(repeat apply Aq);refine Af (by go_simp) ?_);apply Ar F;go_simp;(repeat apply Aq);refine At (by go_simp) ?_;apply As;go_simp;(repeat apply Aq);refine At (by go_simp) ?_;refine AW.prune [1, 3] [1000, 1] (by decide) ?_;go_simp;by_cases hm : m1 = 0
  ·subst hm
   by_cases hq : q1 = 0
   ·subst hq
    rcases b1 with _ | ⟨x, r⟩
    ·have hz2 : z = true := by rw [← hz]; simp [Ax, Am, *]
     subst hz2; apply Ar F; go_simp; (repeat apply Aq); refine Ah F [0, 1, 2, 3] [4, 5, 6, 7, 8, 9, 10, 11, 12, 13, 14, 15, 16, 17, 18, 19, 20, 21, 22, 23, 24, 25, 26, 27, 28, 29, 30, 31, 32, 33] (by rfl) ?_; go_simp; apply lK 4; go_simp; apply lK 8; go_simp; apply lK 8; go_simp; refine Ac ?_; go_simp; apply Au; go_simp
    have hz2 : z = false := by rw [← hz]; simp [Ax, Am, *]
    subst hz2; apply Ar F; go_simp; (repeat apply Aq); refine Ah F [0, 1, 2, 3] [4, 5, 6, 7, 8, 9, 10, 11, 12, 13, 14, 15, 16, 17, 18, 19, 20, 21, 22, 23, 24, 25, 26, 27, 28, 29, 30, 31, 32, 33] (by rfl) ?_; go_simp; apply lK 4; go_simp; apply lK 8; go_simp; apply lK 8; go_simp; refine Ac ?_; go_simp; apply Au; go_simp
   have hz2 : z = false := by rw [← hz]; simp [Ax, Am, *]
   subst hz2; apply Ar F; go_simp; (repeat apply Aq); refine Ah F [0, 1, 2, 3] [4, 5, 6, 7, 8, 9, 10, 11, 12, 13, 14, 15, 16, 17, 18, 19, 20, 21, 22, 23, 24, 25, 26, 27, 28, 29, 30, 31, 32, 33] (by rfl) ?_; go_simp; apply lK 4; go_simp; apply lK 8; go_simp; apply lK 8; go_simp; refine Ac ?_; go_simp; apply Au; go_simp
  have hz2 : z = false := by rw [← hz]; simp [Ax, Am, *]
  subst hz2; apply Ar F; go_simp; (repeat apply Aq); refine Ah F [0, 1, 2, 3] [4, 5, 6, 7, 8, 9, 10, 11, 12, 13, 14, 15, 16, 17, 18, 19, 20, 21, 22, 23, 24, 25, 26, 27, 28, 29, 30, 31, 32, 33] (by rfl) ?_; go_simp; apply lK 4; go_simp; apply lK 8; go_simp; apply lK 8; go_simp; refine Ac ?_; go_simp; apply Au; go_simp
 by_cases g22 : k1 = 22
 ·subst g22
  (iterate 3 apply Ar F;go_simp);(repeat apply Aq);apply Ab;(iterate 5 apply Ar F;go_simp;(repeat apply Aq);refine Af (by go_simp) ?_);apply Ar F;go_simp;(repeat apply Aq);refine At (by go_simp) ?_;apply As;go_simp;(repeat apply Aq);refine At (by go_simp) ?_;refine AW.prune [1, 3] [1000, 1] (by decide) ?_;go_simp;by_cases hm : m1 = 0
  ·subst hm
   by_cases hq : q1 = 0
   ·subst hq
    rcases b1 with _ | ⟨x, r⟩
    ·have hz2 : z = true := by rw [← hz]; simp [Ax, Am, *]
     subst hz2; apply Ar F; go_simp; (repeat apply Aq); refine Ah F [0, 1, 2, 3] [4, 5, 6, 7, 8, 9, 10, 11, 12, 13, 14, 15, 16, 17, 18, 19, 20, 21, 22, 23, 24, 25, 26, 27, 28, 29, 30, 31, 32, 33] (by rfl) ?_; go_simp; apply lK 4; go_simp; apply lK 8; go_simp; apply lK 8; go_simp; refine Ac ?_; go_simp; apply Au; go_simp
    have hz2 : z = false := by rw [← hz]; simp [Ax, Am, *]
    subst hz2; apply Ar F; go_simp; (repeat apply Aq); refine Ah F [0, 1, 2, 3] [4, 5, 6, 7, 8, 9, 10, 11, 12, 13, 14, 15, 16, 17, 18, 19, 20, 21, 22, 23, 24, 25, 26, 27, 28, 29, 30, 31, 32, 33] (by rfl) ?_; go_simp; apply lK 4; go_simp; apply lK 8; go_simp; apply lK 8; go_simp; refine Ac ?_; go_simp; apply Au; go_simp
   have hz2 : z = false := by rw [← hz]; simp [Ax, Am, *]
   subst hz2; apply Ar F; go_simp; (repeat apply Aq); refine Ah F [0, 1, 2, 3] [4, 5, 6, 7, 8, 9, 10, 11, 12, 13, 14, 15, 16, 17, 18, 19, 20, 21, 22, 23, 24, 25, 26, 27, 28, 29, 30, 31, 32, 33] (by rfl) ?_; go_simp; apply lK 4; go_simp; apply lK 8; go_simp; apply lK 8; go_simp; refine Ac ?_; go_simp; apply Au; go_simp
  have hz2 : z = false := by rw [← hz]; simp [Ax, Am, *]
  subst hz2; apply Ar F; go_simp; (repeat apply Aq); refine Ah F [0, 1, 2, 3] [4, 5, 6, 7, 8, 9, 10, 11, 12, 13, 14, 15, 16, 17, 18, 19, 20, 21, 22, 23, 24, 25, 26, 27, 28, 29, 30, 31, 32, 33] (by rfl) ?_; go_simp; apply lK 4; go_simp; apply lK 8; go_simp; apply lK 8; go_simp; refine Ac ?_; go_simp; apply Au; go_simp
 by_cases g23 : k1 = 23
 ·subst g23
  (iterate 3 apply Ar F;go_simp);(repeat apply Aq);apply Ab;(iterate 6 apply Ar F;go_simp;(repeat apply Aq);refine Af (by go_simp) ?_);apply Ar F;go_simp;(repeat apply Aq);refine At (by go_simp) ?_;apply As;go_simp;(repeat apply Aq);refine At (by go_simp) ?_;refine AW.prune [1, 3] [1000, 1] (by decide) ?_;go_simp;by_cases hm : m1 = 0
  ·subst hm
   by_cases hq : q1 = 0
   ·subst hq
    rcases b1 with _ | ⟨x, r⟩
    ·have hz2 : z = true := by rw [← hz]; simp [Ax, Am, *]
     subst hz2; apply Ar F; go_simp; (repeat apply Aq); refine Ah F [0, 1, 2, 3] [4, 5, 6, 7, 8, 9, 10, 11, 12, 13, 14, 15, 16, 17, 18, 19, 20, 21, 22, 23, 24, 25, 26, 27, 28, 29, 30, 31, 32, 33] (by rfl) ?_; go_simp; apply lK 4; go_simp; apply lK 8; go_simp; apply lK 8; go_simp; refine Ac ?_; go_simp; apply Au; go_simp
    have hz2 : z = false := by rw [← hz]; simp [Ax, Am, *]
    subst hz2; apply Ar F; go_simp; (repeat apply Aq); refine Ah F [0, 1, 2, 3] [4, 5, 6, 7, 8, 9, 10, 11, 12, 13, 14, 15, 16, 17, 18, 19, 20, 21, 22, 23, 24, 25, 26, 27, 28, 29, 30, 31, 32, 33] (by rfl) ?_; go_simp; apply lK 4; go_simp; apply lK 8; go_simp; apply lK 8; go_simp; refine Ac ?_; go_simp; apply Au; go_simp
   have hz2 : z = false := by rw [← hz]; simp [Ax, Am, *]
   subst hz2; apply Ar F; go_simp; (repeat apply Aq); refine Ah F [0, 1, 2, 3] [4, 5, 6, 7, 8, 9, 10, 11, 12, 13, 14, 15, 16, 17, 18, 19, 20, 21, 22, 23, 24, 25, 26, 27, 28, 29, 30, 31, 32, 33] (by rfl) ?_; go_simp; apply lK 4; go_simp; apply lK 8; go_simp; apply lK 8; go_simp; refine Ac ?_; go_simp; apply Au; go_simp
  have hz2 : z = false := by rw [← hz]; simp [Ax, Am, *]
  subst hz2; apply Ar F; go_simp; (repeat apply Aq); refine Ah F [0, 1, 2, 3] [4, 5, 6, 7, 8, 9, 10, 11, 12, 13, 14, 15, 16, 17, 18, 19, 20, 21, 22, 23, 24, 25, 26, 27, 28, 29, 30, 31, 32, 33] (by rfl) ?_; go_simp; apply lK 4; go_simp; apply lK 8; go_simp; apply lK 8; go_simp; refine Ac ?_; go_simp; apply Au; go_simp
 by_cases g24 : k1 = 24
 ·subst g24
  (iterate 3 apply Ar F;go_simp);(repeat apply Aq);apply Ab;(iterate 7 apply Ar F;go_simp;(repeat apply Aq);refine Af (by go_simp) ?_);apply Ar F;go_simp;(repeat apply Aq);refine At (by go_simp) ?_;apply As;go_simp;(repeat apply Aq);refine At (by go_simp) ?_;refine AW.prune [1, 3] [1000, 1] (by decide) ?_;go_simp;by_cases hm : m1 = 0
  ·subst hm
   by_cases hq : q1 = 0
   ·subst hq
    have hz2 : z = true := by rw [← hz]; simp [Ax, Am, *]
    subst hz2; apply Ar F; go_simp; (repeat apply Aq); refine Ah F [0, 1, 2, 3] [4, 5, 6, 7, 8, 9, 10, 11, 12, 13, 14, 15, 16, 17, 18, 19, 20, 21, 22, 23, 24, 25, 26, 27, 28, 29, 30, 31, 32, 33] (by rfl) ?_; go_simp; apply lK 4; go_simp; apply lK 8; go_simp; apply lK 8; go_simp; refine Ac ?_; go_simp; apply Au; go_simp
   have hz2 : z = false := by rw [← hz]; simp [Ax, Am, *]
   subst hz2; apply Ar F; go_simp; (repeat apply Aq); refine Ah F [0, 1, 2, 3] [4, 5, 6, 7, 8, 9, 10, 11, 12, 13, 14, 15, 16, 17, 18, 19, 20, 21, 22, 23, 24, 25, 26, 27, 28, 29, 30, 31, 32, 33] (by rfl) ?_; go_simp; apply lK 4; go_simp; apply lK 8; go_simp; apply lK 8; go_simp; refine Ac ?_; go_simp; apply Au; go_simp
  have hz2 : z = false := by rw [← hz]; simp [Ax, Am, *]
  subst hz2; apply Ar F; go_simp; (repeat apply Aq); refine Ah F [0, 1, 2, 3] [4, 5, 6, 7, 8, 9, 10, 11, 12, 13, 14, 15, 16, 17, 18, 19, 20, 21, 22, 23, 24, 25, 26, 27, 28, 29, 30, 31, 32, 33] (by rfl) ?_; go_simp; apply lK 4; go_simp; apply lK 8; go_simp; apply lK 8; go_simp; refine Ac ?_; go_simp; apply Au; go_simp
 by_cases g25 : k1 = 25
 ·subst g25
  (iterate 3 apply Ar F;go_simp);(repeat apply Aq);apply Ab;(iterate 8 apply Ar F;go_simp;(repeat apply Aq);refine Af (by go_simp) ?_);apply Ar F;go_simp;(repeat apply Aq);refine At (by go_simp) ?_;refine AW.prune [1, 3] [1000, 1] (by decide) ?_;go_simp;by_cases hm : m1 = 0
  ·subst hm
   by_cases hq : q1 = 0
   ·subst hq
    rcases b1 with _ | ⟨x, r⟩
    ·have hz2 : z = true := by rw [← hz]; simp [Ax, Am, *]
     subst hz2; apply Ar F; go_simp; (repeat apply Aq); refine Ah F [0, 1, 2, 3] [4, 5, 6, 7, 8, 9, 10, 11, 12, 13, 14, 15, 16, 17, 18, 19, 20, 21, 22, 23, 24, 25, 26, 27, 28, 29, 30, 31, 32, 33] (by rfl) ?_; go_simp; apply lK 4; go_simp; apply lK 8; go_simp; apply lK 8; go_simp; refine Ac ?_; go_simp; apply Au; go_simp
    have hz2 : z = false := by rw [← hz]; simp [Ax, Am, *]
    subst hz2; apply Ar F; go_simp; (repeat apply Aq); refine Ah F [0, 1, 2, 3] [4, 5, 6, 7, 8, 9, 10, 11, 12, 13, 14, 15, 16, 17, 18, 19, 20, 21, 22, 23, 24, 25, 26, 27, 28, 29, 30, 31, 32, 33] (by rfl) ?_; go_simp; apply lK 4; go_simp; apply lK 8; go_simp; apply lK 8; go_simp; refine Ac ?_; go_simp; apply Au; go_simp
   have hz2 : z = false := by rw [← hz]; simp [Ax, Am, *]
   subst hz2; apply Ar F; go_simp; (repeat apply Aq); refine Ah F [0, 1, 2, 3] [4, 5, 6, 7, 8, 9, 10, 11, 12, 13, 14, 15, 16, 17, 18, 19, 20, 21, 22, 23, 24, 25, 26, 27, 28, 29, 30, 31, 32, 33] (by rfl) ?_; go_simp; apply lK 4; go_simp; apply lK 8; go_simp; apply lK 8; go_simp; refine Ac ?_; go_simp; apply Au; go_simp
  have hz2 : z = false := by rw [← hz]; simp [Ax, Am, *]
  subst hz2; apply Ar F; go_simp; (repeat apply Aq); refine Ah F [0, 1, 2, 3] [4, 5, 6, 7, 8, 9, 10, 11, 12, 13, 14, 15, 16, 17, 18, 19, 20, 21, 22, 23, 24, 25, 26, 27, 28, 29, 30, 31, 32, 33] (by rfl) ?_; go_simp; apply lK 4; go_simp; apply lK 8; go_simp; apply lK 8; go_simp; refine Ac ?_; go_simp; apply Au; go_simp
 (iterate 3 apply Ar F;go_simp);(repeat apply Aq);apply Ab;(iterate 9 apply Ar F;go_simp;(repeat apply Aq);refine Af (by go_simp) ?_);apply As;go_simp;refine AW.prune [1, 3] [1000, 1] (by decide) ?_;go_simp;by_cases hs : t1 = ⟨#[]⟩
 ·subst hs
  by_cases h2 : k1 = 2
  ·subst h2
   rcases b1 with _ | ⟨x, r⟩
   ·have hz2 : z = true := by rw [← hz]; simp [Ax, Am, *]
    subst hz2; (repeat apply Aq); refine Ah F [0, 1, 2, 3] [4, 5, 6, 7, 8, 9, 10, 11, 12, 13, 14, 15, 16, 17, 18, 19, 20, 21, 22, 23, 24, 25, 26, 27, 28, 29, 30, 31, 32, 33] (by rfl) ?_; go_simp; apply lK 4; go_simp; apply lK 8; go_simp; apply lK 8; go_simp; refine Ac ?_; go_simp; apply Au; go_simp
   have hz2 : z = false := by rw [← hz]; simp [Ax, Am, *]
   subst hz2; (repeat apply Aq); refine Ah F [0, 1, 2, 3] [4, 5, 6, 7, 8, 9, 10, 11, 12, 13, 14, 15, 16, 17, 18, 19, 20, 21, 22, 23, 24, 25, 26, 27, 28, 29, 30, 31, 32, 33] (by rfl) ?_; go_simp; apply lK 4; go_simp; apply lK 8; go_simp; apply lK 8; go_simp; refine Ac ?_; go_simp; apply Au; go_simp
  by_cases h6 : k1 = 6
  ·subst h6
   by_cases hm : m1 = 0
   ·subst hm
    by_cases hq : q1 = 0
    ·subst hq
     have hz2 : z = true := by rw [← hz]; simp [Ax, Am, *]
     subst hz2; (repeat apply Aq); refine Ah F [0, 1, 2, 3] [4, 5, 6, 7, 8, 9, 10, 11, 12, 13, 14, 15, 16, 17, 18, 19, 20, 21, 22, 23, 24, 25, 26, 27, 28, 29, 30, 31, 32, 33] (by rfl) ?_; go_simp; apply lK 4; go_simp; apply lK 8; go_simp; apply lK 8; go_simp; refine Ac ?_; go_simp; apply Au; go_simp
    have hz2 : z = false := by rw [← hz]; simp [Ax, Am, *]
    subst hz2; (repeat apply Aq); refine Ah F [0, 1, 2, 3] [4, 5, 6, 7, 8, 9, 10, 11, 12, 13, 14, 15, 16, 17, 18, 19, 20, 21, 22, 23, 24, 25, 26, 27, 28, 29, 30, 31, 32, 33] (by rfl) ?_; go_simp; apply lK 4; go_simp; apply lK 8; go_simp; apply lK 8; go_simp; refine Ac ?_; go_simp; apply Au; go_simp
   have hz2 : z = false := by rw [← hz]; simp [Ax, Am, *]
   subst hz2; (repeat apply Aq); refine Ah F [0, 1, 2, 3] [4, 5, 6, 7, 8, 9, 10, 11, 12, 13, 14, 15, 16, 17, 18, 19, 20, 21, 22, 23, 24, 25, 26, 27, 28, 29, 30, 31, 32, 33] (by rfl) ?_; go_simp; apply lK 4; go_simp; apply lK 8; go_simp; apply lK 8; go_simp; refine Ac ?_; go_simp; apply Au; go_simp
  by_cases hm : m1 = 0
  ·subst hm
   by_cases hq : q1 = 0
   ·subst hq
    rcases b1 with _ | ⟨x, r⟩
    ·have hz2 : z = true := by rw [← hz]; simp [Ax, Am, *]
     subst hz2; (repeat apply Aq); refine Ah F [0, 1, 2, 3] [4, 5, 6, 7, 8, 9, 10, 11, 12, 13, 14, 15, 16, 17, 18, 19, 20, 21, 22, 23, 24, 25, 26, 27, 28, 29, 30, 31, 32, 33] (by rfl) ?_; go_simp; apply lK 4; go_simp; apply lK 8; go_simp; apply lK 8; go_simp; refine Ac ?_; go_simp; apply Au; go_simp
    have hz2 : z = false := by rw [← hz]; simp [Ax, Am, *]
    subst hz2; (repeat apply Aq); refine Ah F [0, 1, 2, 3] [4, 5, 6, 7, 8, 9, 10, 11, 12, 13, 14, 15, 16, 17, 18, 19, 20, 21, 22, 23, 24, 25, 26, 27, 28, 29, 30, 31, 32, 33] (by rfl) ?_; go_simp; apply lK 4; go_simp; apply lK 8; go_simp; apply lK 8; go_simp; refine Ac ?_; go_simp; apply Au; go_simp
   have hz2 : z = false := by rw [← hz]; simp [Ax, Am, *]
   subst hz2; (repeat apply Aq); refine Ah F [0, 1, 2, 3] [4, 5, 6, 7, 8, 9, 10, 11, 12, 13, 14, 15, 16, 17, 18, 19, 20, 21, 22, 23, 24, 25, 26, 27, 28, 29, 30, 31, 32, 33] (by rfl) ?_; go_simp; apply lK 4; go_simp; apply lK 8; go_simp; apply lK 8; go_simp; refine Ac ?_; go_simp; apply Au; go_simp
  have hz2 : z = false := by rw [← hz]; simp [Ax, Am, *]
  subst hz2; (repeat apply Aq); refine Ah F [0, 1, 2, 3] [4, 5, 6, 7, 8, 9, 10, 11, 12, 13, 14, 15, 16, 17, 18, 19, 20, 21, 22, 23, 24, 25, 26, 27, 28, 29, 30, 31, 32, 33] (by rfl) ?_; go_simp; apply lK 4; go_simp; apply lK 8; go_simp; apply lK 8; go_simp; refine Ac ?_; go_simp; apply Au; go_simp
 have hz2 : z = false := by rw [← hz]; simp [Ax, Am, *]
 subst hz2; (repeat apply Aq); refine Ah F [0, 1, 2, 3] [4, 5, 6, 7, 8, 9, 10, 11, 12, 13, 14, 15, 16, 17, 18, 19, 20, 21, 22, 23, 24, 25, 26, 27, 28, 29, 30, 31, 32, 33] (by rfl) ?_; go_simp; apply lK 4; go_simp; apply lK 8; go_simp; apply lK 8; go_simp; refine Ac ?_; go_simp; apply Au; go_simp
open Go Go.RowKit Go.Proofs Th
set_option maxRecDepth 8000
variable {G : World → CS → Prop}
theorem UK (gk : GK G) : ∀ (n : Nat), n ≤ 4000000000000000000 → ∀ x : NJ, Bp x ≤ n → ACalls Tryz.prog G 19 none [.agg (Ag x)] (.ret (iI (Bp x)) []) := by
 intro n; induction n with
 | zero => intro _ x h; obtain ⟨k1, t1, m1, q1, l1, b1⟩ := x; simp only [Bp] at h; omega
 | succ n ih =>
  intro hn x hx; obtain ⟨k1, t1, m1, q1, l1, b1⟩ := x; rw [Bp] at hx; obtain ⟨r, hr⟩ : ∃ r, CJ l1 = r := ⟨_, rfl⟩
  rw [Bp, hr]; rw [hr] at hx; have hz := rng (1 + (r : Int)) (by omega); by_cases hlen : l1.length ≤ 140737488351232
  case neg => exact ⟨⟨_, Tryz.func19, rfl, rfl⟩, fun W S p us hG hSb hrc hrep => absurd (Qb hrep) hlen⟩
  refine ACalls.enter Tryz.func19 rfl rfl gk Tryz.ntmps19 fun X F => ?_
  (iterate 3 apply Ar F;go_simp);(repeat apply Aq);apply Ab;(repeat apply Aq);refine A9 [1, 3, 4] [1000, 1] (by decide) (fun g s => ∃ (k m : Nat), s = mkS [(1, .ptr 1 0), (3, .im (iI m)), (4, .im (iI k))] [(1000, .none), (1, .box ((Ag (.mk k1 t1 m1 q1 l1 b1)).map .im))] ∧ g = l1.length - k ∧ k ≤ l1.length ∧ max m (CJ (l1.drop k)) = r) (l1.length) ?_ ?_
  ·refine ⟨0, 0, ?_, by omega, by omega, by rw [List.drop_zero, hr]; omega⟩
   go_simp
  rintro g s ⟨k, m, rfl, rfl, hk, h⟩; by_cases hkt : k < l1.length
  ·have hkI : (k : Int) < (l1.length : Int) := by omega
   have hrk := rng ((k : Int) + 1) (by omega); rw [Ri l1 k hkt] at h; obtain ⟨y, hyE⟩ : ∃ y, l1[k] = y := ⟨_, rfl⟩
   rw [hyE] at h; have cy := ih (by omega) y (by omega); obtain ⟨d, hd⟩ : ∃ d, Bp y = d := ⟨_, rfl⟩
   rw [hd] at h cy; clear hd; obtain ⟨k2, t2, m2, q2, l2, b2⟩ := y; apply Ar F; go_simp; (repeat apply Aq); refine At (by go_simp) ?_; apply As; go_simp; (repeat apply Aq); apply Ab; apply Ar F; go_simp; refine ⟨_, cy, ?_⟩; go_simp; by_cases hmd : m < d
   ·have hmdI : (m : Int) < (d : Int) := by omega
    apply Ar F; go_simp; (repeat apply Aq); refine At (by go_simp) ?_; apply Ar F; go_simp; apply Ar F; go_simp; refine ⟨l1.length - (k + 1), by omega, k + 1, d, ?_, rfl, by omega, by omega⟩; go_simp
   have hmdI : ¬ (m : Int) < (d : Int) := by omega
   apply Ar F; go_simp; (repeat apply Aq); refine Af (by go_simp) ?_; apply As; go_simp; apply Ar F; go_simp; refine ⟨l1.length - (k + 1), by omega, k + 1, m, ?_, rfl, by omega, by omega⟩; go_simp
  have hkI : ¬ (k : Int) < (l1.length : Int) := by omega
  rw [List.drop_eq_nil_of_le (by omega), CJ] at h; obtain rfl : m = r := by omega
  apply Ar F; go_simp; (repeat apply Aq); refine Af (by go_simp) ?_; apply Ae; go_simp; apply Ar F; go_simp; apply Au; go_simp
open Go Go.RowKit Go.Proofs Th
set_option maxRecDepth 8000
variable {G : World → CS → Prop}
theorem LA : ∀ {a b : List NJ}, a.length ≠ b.length → CI a b = false
 | [], [], h => absurd rfl h
 | [], _ :: _, _ => by simp [CI]
 | _ :: _, [], _ => by simp [CI]
 | x :: a, y :: b, h => by
  rw [CI, LA (fun e => h (by simp [e])), Bool.and_false]
theorem QU (gk : GK G) (a b : List NJ) (IH : ∀ x ∈ a, ∀ y, ACalls Tryz.prog G 13 none [.agg (Ag x), .agg (Ag y)] (.ret (bI (EL x y)) [])) : ACalls Tryz.prog G 22 none [.sl (AJ a) false, .sl (AJ b) false, .v (.func (.func 13) #[] #[])] (.ret (bI (CI a b)) []) := by
 by_cases hlen : a.length ≤ 140737488351232
 case neg => exact ⟨⟨_, Tryz.func22, rfl, rfl⟩, fun W S p us hG hSb hrc hrep => absurd (by have := Ez hrep; rwa [AF] at this) hlen⟩
 obtain ⟨z, hz⟩ : ∃ z, CI a b = z := ⟨_, rfl⟩
 rw [hz]; by_cases hl : a.length = b.length
 case neg =>
  have hlI : ¬ (a.length : Int) = (b.length : Int) := by omega
  have hz2 : z = false := by rw [← hz]; exact LA hl
  subst hz2; refine ACalls.enter Tryz.func22 rfl rfl gk Tryz.ntmps22 fun X F => ?_
  apply Ar F; go_simp; apply Ar F; go_simp; (repeat apply Aq); refine At (by go_simp) ?_; apply Ar F; go_simp; apply Au; go_simp
 have hlI : (b.length : Int) = (a.length : Int) := by omega
 refine ACalls.enter Tryz.func22 rfl rfl gk Tryz.ntmps22 fun X F => ?_
 apply Ar F; go_simp; apply Ar F; go_simp; (repeat apply Aq); refine Af (by go_simp) ?_; apply As; go_simp; apply Ar F; go_simp; (repeat apply Aq); apply Ab; (repeat apply Aq); refine A9 [0, 1, 2, 15, 16, 17] [1000] (by decide) (fun g t => ∃ k : Nat, t = mkS [(0, .im (.sl (AJ a) false)), (1, .im (.sl (AJ b) false)), (2, .im (.v (.func (.func 13) #[] #[]))), (15, .im (.sl (AJ a) false)), (16, .im (iI a.length)), (17, .im (iI k))] [(1000, .none)] ∧ g = a.length - k ∧ k ≤ a.length ∧ CI (a.drop k) (b.drop k) = z) (a.length) ?_ ?_
 ·refine ⟨0, ?_, by omega, by omega, hz⟩
  go_simp
 rintro g t ⟨k, rfl, rfl, hk, hg⟩; by_cases hkt : k < a.length
 ·have hkI : (k : Int) < (a.length : Int) := by omega
  have hrk := rng ((k : Int) + 1) (by omega); have hkt2 : k < b.length := by omega
  have hkI2 : (k : Int) < (b.length : Int) := by omega
  have cs := IH a[k] (List.getElem_mem hkt) b[k]; rw [List.drop_eq_getElem_cons hkt, List.drop_eq_getElem_cons hkt2, CI] at hg; generalize EL a[k] b[k] = sv at cs hg; obtain ⟨⟨k5, t5, m5, q5, l5, b5⟩, hx⟩ : ∃ x, a[k] = x := ⟨_, rfl⟩
  obtain ⟨⟨k6, t6, m6, q6, l6, b6⟩, hy⟩ : ∃ x, b[k] = x := ⟨_, rfl⟩
  rw [hx, hy] at cs; apply Ar F; go_simp; (repeat apply Aq); refine At (by go_simp) ?_; apply As; go_simp; (repeat apply Aq); apply Ab; cases sv
  ·apply Ar F
   go_simp; apply Ar F; go_simp; apply Ar F; go_simp; refine ⟨_, cs, ?_⟩; go_simp; rw [Bool.false_and] at hg; subst hg; (repeat apply Aq); refine At (by go_simp) ?_; apply Ar F; go_simp; apply Au; go_simp
  (iterate 3 apply Ar F;go_simp);refine ⟨_, cs, ?_⟩;go_simp;rw [Bool.true_and] at hg;(repeat apply Aq);refine Af (by go_simp) ?_;apply As;go_simp;apply Ar F;go_simp;refine ⟨a.length - (k + 1), by omega, k + 1, ?_, by omega, by omega, hg⟩;go_simp
 have hkI : ¬ (k : Int) < (a.length : Int) := by omega
 rw [List.drop_eq_nil_of_le (by omega), List.drop_eq_nil_of_le (by omega), CI] at hg; subst hg; apply Ar F; go_simp; (repeat apply Aq); refine Af (by go_simp) ?_; apply Ae; go_simp; apply Ar F; go_simp; apply Au; go_simp
theorem US (gk : GK G) : ∀ (n : Nat) (x : NJ), Bp x ≤ n → ∀ y : NJ, ACalls Tryz.prog G 13 none [.agg (Ag x), .agg (Ag y)] (.ret (bI (EL x y)) []) := by
 intro n; induction n with
 | zero => intro x h; obtain ⟨k1, t1, m1, q1, l1, b1⟩ := x; simp only [Bp] at h; omega
 | succ n ih =>
  intro x hx y; obtain ⟨k1, t1, m1, q1, l1, b1⟩ := x; obtain ⟨k2, t2, m2, q2, l2, b2⟩ := y; rw [Bp] at hx; have heq := NX; have ce := Tb gk b1 b2; have cf := QU gk l1 l2 (fun x hx2 y => ih x (C7.1 (by omega) x hx2) y); clear ih; obtain ⟨z, hz⟩ : ∃ z, EL (.mk k1 t1 m1 q1 l1 b1) (.mk k2 t2 m2 q2 l2 b2) = z := ⟨_, rfl⟩
  rw [hz]; rw [EL] at hz; generalize decide (b1 = b2) = eb at ce hz; generalize CI l1 l2 = el at cf hz; by_cases h1 : k1 = k2
  case neg =>
   have hz2 : z = false := by rw [← hz]; simp [h1]
   subst hz2; refine ACalls.enter Tryz.func13 rfl rfl gk Tryz.ntmps13 fun X F => ?_
   repeat' first
    | refine AW.seq ?_
    | refine AW.block ?_
    | (refine Ah F [0, 1, 2, 3, 4, 5, 6] [7, 8, 9, 10, 11, 12, 13, 14, 15, 16, 17, 18, 19, 20, 21, 22, 23, 24, 25, 26, 27, 28, 29, 30, 31, 32] (by rfl) ?_; go_simp)
    | (refine AM [7, 8, 9, 10, 11, 12, 13] [14, 15, 16, 17, 18, 19, 20, 21, 22, 23, 24, 25, 26, 27, 28, 29, 30, 31, 32] ?_; go_simp)
    | (refine AM [14, 15, 16, 17, 18, 19, 20] [21, 22, 23, 24, 25, 26, 27, 28, 29, 30, 31, 32] ?_; go_simp)
    | (refine AM [21, 22, 23, 24, 25, 26, 27] [28, 29, 30, 31, 32] ?_; go_simp)
    | (refine Ac ?_; go_simp)
    | (refine Ao F ?_; go_simp)
    | (refine Ak ?_; go_simp)
    | (refine AW.skip ?_; go_simp)
    | (refine AW.exit ?_; go_simp)
    | (refine AW.ret ?_; go_simp)
    | (refine ⟨_, ce, ?_⟩; go_simp)
    | (refine ⟨_, cf, ?_⟩; go_simp)
    | refine ⟨fun h => ?_, fun h => ?_⟩
    | intro h
  by_cases h2 : t1 = t2
  case neg =>
   have hz2 : z = false := by rw [← hz]; simp [h2]
   subst hz2; refine ACalls.enter Tryz.func13 rfl rfl gk Tryz.ntmps13 fun X F => ?_
   repeat' first
    | refine AW.seq ?_
    | refine AW.block ?_
    | (refine Ah F [0, 1, 2, 3, 4, 5, 6] [7, 8, 9, 10, 11, 12, 13, 14, 15, 16, 17, 18, 19, 20, 21, 22, 23, 24, 25, 26, 27, 28, 29, 30, 31, 32] (by rfl) ?_; go_simp)
    | (refine AM [7, 8, 9, 10, 11, 12, 13] [14, 15, 16, 17, 18, 19, 20, 21, 22, 23, 24, 25, 26, 27, 28, 29, 30, 31, 32] ?_; go_simp)
    | (refine AM [14, 15, 16, 17, 18, 19, 20] [21, 22, 23, 24, 25, 26, 27, 28, 29, 30, 31, 32] ?_; go_simp)
    | (refine AM [21, 22, 23, 24, 25, 26, 27] [28, 29, 30, 31, 32] ?_; go_simp)
    | (refine Ac ?_; go_simp)
    | (refine Ao F ?_; go_simp)
    | (refine Ak ?_; go_simp)
    | (refine AW.skip ?_; go_simp)
    | (refine AW.exit ?_; go_simp)
    | (refine AW.ret ?_; go_simp)
    | (refine ⟨_, ce, ?_⟩; go_simp)
    | (refine ⟨_, cf, ?_⟩; go_simp)
    | refine ⟨fun h => ?_, fun h => ?_⟩
    | intro h
  by_cases h3 : m1 = m2
  case neg =>
   have hz2 : z = false := by rw [← hz]; simp [h3]
   subst hz2; refine ACalls.enter Tryz.func13 rfl rfl gk Tryz.ntmps13 fun X F => ?_
   repeat' first
    | refine AW.seq ?_
    | refine AW.block ?_
    | (refine Ah F [0, 1, 2, 3, 4, 5, 6] [7, 8, 9, 10, 11, 12, 13, 14, 15, 16, 17, 18, 19, 20, 21, 22, 23, 24, 25, 26, 27, 28, 29, 30, 31, 32] (by rfl) ?_; go_simp)
    | (refine AM [7, 8, 9, 10, 11, 12, 13] [14, 15, 16, 17, 18, 19, 20, 21, 22, 23, 24, 25, 26, 27, 28, 29, 30, 31, 32] ?_; go_simp)
    | (refine AM [14, 15, 16, 17, 18, 19, 20] [21, 22, 23, 24, 25, 26, 27, 28, 29, 30, 31, 32] ?_; go_simp)
    | (refine AM [21, 22, 23, 24, 25, 26, 27] [28, 29, 30, 31, 32] ?_; go_simp)
    | (refine Ac ?_; go_simp)
    | (refine Ao F ?_; go_simp)
    | (refine Ak ?_; go_simp)
    | (refine AW.skip ?_; go_simp)
    | (refine AW.exit ?_; go_simp)
    | (refine AW.ret ?_; go_simp)
    | (refine ⟨_, ce, ?_⟩; go_simp)
    | (refine ⟨_, cf, ?_⟩; go_simp)
    | refine ⟨fun h => ?_, fun h => ?_⟩
    | intro h
  by_cases h4 : q1 = q2
  case neg =>
   have hz2 : z = false := by rw [← hz]; simp [h4]
   subst hz2; refine ACalls.enter Tryz.func13 rfl rfl gk Tryz.ntmps13 fun X F => ?_
   repeat' first
    | refine AW.seq ?_
    | refine AW.block ?_
    | (refine Ah F [0, 1, 2, 3, 4, 5, 6] [7, 8, 9, 10, 11, 12, 13, 14, 15, 16, 17, 18, 19, 20, 21, 22, 23, 24, 25, 26, 27, 28, 29, 30, 31, 32] (by rfl) ?_; go_simp)
    | (refine AM [7, 8, 9, 10, 11, 12, 13] [14, 15, 16, 17, 18, 19, 20, 21, 22, 23, 24, 25, 26, 27, 28, 29, 30, 31, 32] ?_; go_simp)
    | (refine AM [14, 15, 16, 17, 18, 19, 20] [21, 22, 23, 24, 25, 26, 27, 28, 29, 30, 31, 32] ?_; go_simp)
    | (refine AM [21, 22, 23, 24, 25, 26, 27] [28, 29, 30, 31, 32] ?_; go_simp)
    | (refine Ac ?_; go_simp)
    | (refine Ao F ?_; go_simp)
    | (refine Ak ?_; go_simp)
    | (refine AW.skip ?_; go_simp)
    | (refine AW.exit ?_; go_simp)
    | (refine AW.ret ?_; go_simp)
    | (refine ⟨_, ce, ?_⟩; go_simp)
    | (refine ⟨_, cf, ?_⟩; go_simp)
    | refine ⟨fun h => ?_, fun h => ?_⟩
    | intro h
  have hz2 : z = (eb && el) := by rw [← hz]; simp [h1, h2, h3, h4]
  subst h1 h2 h3 h4 hz2; cases eb
  all_goals
   refine ACalls.enter Tryz.func13 rfl rfl gk Tryz.ntmps13 fun X F => ?_
   repeat' first
    | refine AW.seq ?_
    | refine AW.block ?_
    | (refine Ah F [0, 1, 2, 3, 4, 5, 6] [7, 8, 9, 10, 11, 12, 13, 14, 15, 16, 17, 18, 19, 20, 21, 22, 23, 24, 25, 26, 27, 28, 29, 30, 31, 32] (by rfl) ?_; go_simp)
    | (refine AM [7, 8, 9, 10, 11, 12, 13] [14, 15, 16, 17, 18, 19, 20, 21, 22, 23, 24, 25, 26, 27, 28, 29, 30, 31, 32] ?_; go_simp)
    | (refine AM [14, 15, 16, 17, 18, 19, 20] [21, 22, 23, 24, 25, 26, 27, 28, 29, 30, 31, 32] ?_; go_simp)
    | (refine AM [21, 22, 23, 24, 25, 26, 27] [28, 29, 30, 31, 32] ?_; go_simp)
    | (refine Ac ?_; go_simp)
    | (refine Ao F ?_; go_simp)
    | (refine Ak ?_; go_simp)
    | (refine AW.skip ?_; go_simp)
    | (refine AW.exit ?_; go_simp)
    | (refine AW.ret ?_; go_simp)
    | (refine ⟨_, ce, ?_⟩; go_simp)
    | (refine ⟨_, cf, ?_⟩; go_simp)
    | refine ⟨fun h => ?_, fun h => ?_⟩
    | intro h
end Go.Proofs.YtakncilicoefdaaGreatDoor
