/- Lemmas and contracts. Conditions: those that each lemma names. -/
import Derived.Test.YtakncilicoefdaaGreatDoorPz36
set_option maxRecDepth 100000
set_option maxHeartbeats 40000000
namespace Go.Proofs.YtakncilicoefdaaGreatDoor
open Go Go.RowKit Go.Proofs Th
set_option maxRecDepth 8000
attribute [local go_sem] sel
variable {G : World → CS → Prop}
theorem XD (gk : GK G) (n : NJ) : ACalls Tryz.prog G 42 none [.agg (Al n)] (.ret (bI (AJ n)) []) := by
 have heq := P3; obtain ⟨k1, t1, m1, q1, l1, b1⟩ := n; obtain ⟨z, hz⟩ : ∃ z, AJ (.mk k1 t1 m1 q1 l1 b1) = z := ⟨_, rfl⟩
 rw [hz]; have hr : ∀ r : List ByteArray, ¬ ((r.length : Int) + 1 = 0) := fun r => by omega
 refine ACalls.enter Tryz.func42 rfl rfl gk Tryz.ntmps42 fun X F => ?_
 by_cases g3 : k1 = 3
 ·subst g3
  (iterate 3 apply Ar F;go_simp);(repeat apply Aq);apply Ab;apply Ar F;go_simp;(repeat apply Aq);refine At (by go_simp) ?_;apply As;go_simp;(repeat apply Aq);refine At (by go_simp) ?_;refine AW.prune [1, 3] [1000, 1] (by decide) ?_;go_simp;by_cases hm : m1 = 0
  ·subst hm
   by_cases hq : q1 = 0
   ·subst hq
    rcases b1 with _ | ⟨x, r⟩
    ·have hz2 : z = true := by rw [← hz]; simp [AJ, AE, *]
     subst hz2; apply Ar F; go_simp; (repeat apply Aq); refine AA F [0, 1, 2, 3] [4, 5, 6, 7, 8, 9, 10, 11, 12, 13, 14, 15, 16, 17, 18, 19, 20, 21, 22, 23, 24, 25, 26, 27, 28, 29, 30, 31, 32, 33] (by rfl) ?_; go_simp; apply lK 4; go_simp; apply lK 8; go_simp; apply lK 8; go_simp; refine Ap ?_; go_simp; apply Au; go_simp
    have hz2 : z = false := by rw [← hz]; simp [AJ, AE, *]
    subst hz2; apply Ar F; go_simp; (repeat apply Aq); refine AA F [0, 1, 2, 3] [4, 5, 6, 7, 8, 9, 10, 11, 12, 13, 14, 15, 16, 17, 18, 19, 20, 21, 22, 23, 24, 25, 26, 27, 28, 29, 30, 31, 32, 33] (by rfl) ?_; go_simp; apply lK 4; go_simp; apply lK 8; go_simp; apply lK 8; go_simp; refine Ap ?_; go_simp; apply Au; go_simp
   have hz2 : z = false := by rw [← hz]; simp [AJ, AE, *]
   subst hz2; apply Ar F; go_simp; (repeat apply Aq); refine AA F [0, 1, 2, 3] [4, 5, 6, 7, 8, 9, 10, 11, 12, 13, 14, 15, 16, 17, 18, 19, 20, 21, 22, 23, 24, 25, 26, 27, 28, 29, 30, 31, 32, 33] (by rfl) ?_; go_simp; apply lK 4; go_simp; apply lK 8; go_simp; apply lK 8; go_simp; refine Ap ?_; go_simp; apply Au; go_simp
  have hz2 : z = false := by rw [← hz]; simp [AJ, AE, *]
  subst hz2; apply Ar F; go_simp; (repeat apply Aq); refine AA F [0, 1, 2, 3] [4, 5, 6, 7, 8, 9, 10, 11, 12, 13, 14, 15, 16, 17, 18, 19, 20, 21, 22, 23, 24, 25, 26, 27, 28, 29, 30, 31, 32, 33] (by rfl) ?_; go_simp; apply lK 4; go_simp; apply lK 8; go_simp; apply lK 8; go_simp; refine Ap ?_; go_simp; apply Au; go_simp
 by_cases g10 : k1 = 10
 ·subst g10
  (iterate 3 apply Ar F;go_simp);(repeat apply Aq);apply Ab;apply Ar F;go_simp;(repeat apply Aq);refine Af (by go_simp) ?_;apply Ar F;go_simp;(repeat apply Aq);refine At (by go_simp) ?_;apply As;go_simp;(repeat apply Aq);refine At (by go_simp) ?_;refine AW.prune [1, 3] [1000, 1] (by decide) ?_;go_simp;by_cases hm : m1 = 0
  ·subst hm
   by_cases hq : q1 = 0
   ·subst hq
    rcases b1 with _ | ⟨x, r⟩
    ·have hz2 : z = true := by rw [← hz]; simp [AJ, AE, *]
     subst hz2; apply Ar F; go_simp; (repeat apply Aq); refine AA F [0, 1, 2, 3] [4, 5, 6, 7, 8, 9, 10, 11, 12, 13, 14, 15, 16, 17, 18, 19, 20, 21, 22, 23, 24, 25, 26, 27, 28, 29, 30, 31, 32, 33] (by rfl) ?_; go_simp; apply lK 4; go_simp; apply lK 8; go_simp; apply lK 8; go_simp; refine Ap ?_; go_simp; apply Au; go_simp
    have hz2 : z = false := by rw [← hz]; simp [AJ, AE, *]
    subst hz2; apply Ar F; go_simp; (repeat apply Aq); refine AA F [0, 1, 2, 3] [4, 5, 6, 7, 8, 9, 10, 11, 12, 13, 14, 15, 16, 17, 18, 19, 20, 21, 22, 23, 24, 25, 26, 27, 28, 29, 30, 31, 32, 33] (by rfl) ?_; go_simp; apply lK 4; go_simp; apply lK 8; go_simp; apply lK 8; go_simp; refine Ap ?_; go_simp; apply Au; go_simp
   have hz2 : z = false := by rw [← hz]; simp [AJ, AE, *]
   subst hz2; apply Ar F; go_simp; (repeat apply Aq); refine AA F [0, 1, 2, 3] [4, 5, 6, 7, 8, 9, 10, 11, 12, 13, 14, 15, 16, 17, 18, 19, 20, 21, 22, 23, 24, 25, 26, 27, 28, 29, 30, 31, 32, 33] (by rfl) ?_; go_simp; apply lK 4; go_simp; apply lK 8; go_simp; apply lK 8; go_simp; refine Ap ?_; go_simp; apply Au; go_simp
  have hz2 : z = false := by rw [← hz]; simp [AJ, AE, *]
  subst hz2; apply Ar F; go_simp; (repeat apply Aq); refine AA F [0, 1, 2, 3] [4, 5, 6, 7, 8, 9, 10, 11, 12, 13, 14, 15, 16, 17, 18, 19, 20, 21, 22, 23, 24, 25, 26, 27, 28, 29, 30, 31, 32, 33] (by rfl) ?_; go_simp; apply lK 4; go_simp; apply lK 8; go_simp; apply lK 8; go_simp; refine Ap ?_; go_simp; apply Au; go_simp
 by_cases g19 : k1 = 19
 ·subst g19
  (iterate 3 apply Ar F;go_simp);(repeat apply Aq);apply Ab;(iterate 2 apply Ar F;go_simp;(repeat apply Aq);refine Af (by go_simp) ?_);apply Ar F;go_simp;(repeat apply Aq);refine At (by go_simp) ?_;apply As;go_simp;(repeat apply Aq);refine At (by go_simp) ?_;refine AW.prune [1, 3] [1000, 1] (by decide) ?_;go_simp;by_cases hm : m1 = 0
  ·subst hm
   by_cases hq : q1 = 0
   ·subst hq
    rcases b1 with _ | ⟨x, r⟩
    ·have hz2 : z = true := by rw [← hz]; simp [AJ, AE, *]
     subst hz2; apply Ar F; go_simp; (repeat apply Aq); refine AA F [0, 1, 2, 3] [4, 5, 6, 7, 8, 9, 10, 11, 12, 13, 14, 15, 16, 17, 18, 19, 20, 21, 22, 23, 24, 25, 26, 27, 28, 29, 30, 31, 32, 33] (by rfl) ?_; go_simp; apply lK 4; go_simp; apply lK 8; go_simp; apply lK 8; go_simp; refine Ap ?_; go_simp; apply Au; go_simp
    have hz2 : z = false := by rw [← hz]; simp [AJ, AE, *]
    subst hz2; apply Ar F; go_simp; (repeat apply Aq); refine AA F [0, 1, 2, 3] [4, 5, 6, 7, 8, 9, 10, 11, 12, 13, 14, 15, 16, 17, 18, 19, 20, 21, 22, 23, 24, 25, 26, 27, 28, 29, 30, 31, 32, 33] (by rfl) ?_; go_simp; apply lK 4; go_simp; apply lK 8; go_simp; apply lK 8; go_simp; refine Ap ?_; go_simp; apply Au; go_simp
   have hz2 : z = false := by rw [← hz]; simp [AJ, AE, *]
   subst hz2; apply Ar F; go_simp; (repeat apply Aq); refine AA F [0, 1, 2, 3] [4, 5, 6, 7, 8, 9, 10, 11, 12, 13, 14, 15, 16, 17, 18, 19, 20, 21, 22, 23, 24, 25, 26, 27, 28, 29, 30, 31, 32, 33] (by rfl) ?_; go_simp; apply lK 4; go_simp; apply lK 8; go_simp; apply lK 8; go_simp; refine Ap ?_; go_simp; apply Au; go_simp
  have hz2 : z = false := by rw [← hz]; simp [AJ, AE, *]
  subst hz2; apply Ar F; go_simp; (repeat apply Aq); refine AA F [0, 1, 2, 3] [4, 5, 6, 7, 8, 9, 10, 11, 12, 13, 14, 15, 16, 17, 18, 19, 20, 21, 22, 23, 24, 25, 26, 27, 28, 29, 30, 31, 32, 33] (by rfl) ?_; go_simp; apply lK 4; go_simp; apply lK 8; go_simp; apply lK 8; go_simp; refine Ap ?_; go_simp; apply Au; go_simp
 by_cases g20 : k1 = 20
 ·subst g20
  (iterate 3 apply Ar F;go_simp);(repeat apply Aq);apply Ab;(iterate 3 apply Ar F;go_simp;(repeat apply Aq);refine Af (by go_simp) ?_);apply Ar F;go_simp;(repeat apply Aq);refine At (by go_simp) ?_;apply As;go_simp;(repeat apply Aq);refine At (by go_simp) ?_;refine AW.prune [1, 3] [1000, 1] (by decide) ?_;go_simp;by_cases hm : m1 = 0
  ·subst hm
   by_cases hq : q1 = 0
   ·subst hq
    rcases b1 with _ | ⟨x, r⟩
    ·have hz2 : z = true := by rw [← hz]; simp [AJ, AE, *]
     subst hz2; apply Ar F; go_simp; (repeat apply Aq); refine AA F [0, 1, 2, 3] [4, 5, 6, 7, 8, 9, 10, 11, 12, 13, 14, 15, 16, 17, 18, 19, 20, 21, 22, 23, 24, 25, 26, 27, 28, 29, 30, 31, 32, 33] (by rfl) ?_; go_simp; apply lK 4; go_simp; apply lK 8; go_simp; apply lK 8; go_simp; refine Ap ?_; go_simp; apply Au; go_simp
    have hz2 : z = false := by rw [← hz]; simp [AJ, AE, *]
    subst hz2; apply Ar F; go_simp; (repeat apply Aq); refine AA F [0, 1, 2, 3] [4, 5, 6, 7, 8, 9, 10, 11, 12, 13, 14, 15, 16, 17, 18, 19, 20, 21, 22, 23, 24, 25, 26, 27, 28, 29, 30, 31, 32, 33] (by rfl) ?_; go_simp; apply lK 4; go_simp; apply lK 8; go_simp; apply lK 8; go_simp; refine Ap ?_; go_simp; apply Au; go_simp
   have hz2 : z = false := by rw [← hz]; simp [AJ, AE, *]
   subst hz2; apply Ar F; go_simp; (repeat apply Aq); refine AA F [0, 1, 2, 3] [4, 5, 6, 7, 8, 9, 10, 11, 12, 13, 14, 15, 16, 17, 18, 19, 20, 21, 22, 23, 24, 25, 26, 27, 28, 29, 30, 31, 32, 33] (by rfl) ?_; go_simp; apply lK 4; go_simp; apply lK 8; go_simp; apply lK 8; go_simp; refine Ap ?_; go_simp; apply Au; go_simp
  have hz2 : z = false := by rw [← hz]; simp [AJ, AE, *]
  subst hz2; apply Ar F; go_simp; (repeat apply Aq); refine AA F [0, 1, 2, 3] [4, 5, 6, 7, 8, 9, 10, 11, 12, 13, 14, 15, 16, 17, 18, 19, 20, 21, 22, 23, 24, 25, 26, 27, 28, 29, 30, 31, 32, 33] (by rfl) ?_; go_simp; apply lK 4; go_simp; apply lK 8; go_simp; apply lK 8; go_simp; refine Ap ?_; go_simp; apply Au; go_simp
 by_cases g21 : k1 = 21
 ·subst g21
  (iterate 3 apply Ar F;go_simp);(repeat apply Aq);apply Ab;(iterate 4 apply Ar F;go_simp;(repeat apply Aq);refine Af (by go_simp) ?_);apply Ar F;go_simp;(repeat apply Aq);refine At (by go_simp) ?_;apply As;go_simp;(repeat apply Aq);refine At (by go_simp) ?_;refine AW.prune [1, 3] [1000, 1] (by decide) ?_;go_simp;by_cases hm : m1 = 0
  ·subst hm
   by_cases hq : q1 = 0
   ·subst hq
    rcases b1 with _ | ⟨x, r⟩
    ·have hz2 : z = true := by rw [← hz]; simp [AJ, AE, *]
     subst hz2; apply Ar F; go_simp; (repeat apply Aq); refine AA F [0, 1, 2, 3] [4, 5, 6, 7, 8, 9, 10, 11, 12, 13, 14, 15, 16, 17, 18, 19, 20, 21, 22, 23, 24, 25, 26, 27, 28, 29, 30, 31, 32, 33] (by rfl) ?_; go_simp; apply lK 4; go_simp; apply lK 8; go_simp; apply lK 8; go_simp; refine Ap ?_; go_simp; apply Au; go_simp
    have hz2 : z = false := by rw [← hz]; simp [AJ, AE, *]
    subst hz2; apply Ar F; go_simp; (repeat apply Aq); refine AA F [0, 1, 2, 3] [4, 5, 6, 7, 8, 9, 10, 11, 12, 13, 14, 15, 16, 17, 18, 19, 20, 21, 22, 23, 24, 25, 26, 27, 28, 29, 30, 31, 32, 33] (by rfl) ?_; go_simp; apply lK 4; go_simp; apply lK 8; go_simp; apply lK 8; go_simp; refine Ap ?_; go_simp; apply Au; go_simp
   have hz2 : z = false := by rw [← hz]; simp [AJ, AE, *]
   subst hz2; apply Ar F; go_simp; (repeat apply Aq); refine AA F [0, 1, 2, 3] [4, 5, 6, 7, 8, 9, 10, 11, 12, 13, 14, 15, 16, 17, 18, 19, 20, 21, 22, 23, 24, 25, 26, 27, 28, 29, 30, 31, 32, 33] (by rfl) ?_; go_simp; apply lK 4; go_simp; apply lK 8; go_simp; apply lK 8; go_simp; refine Ap ?_; go_simp; apply Au; go_simp
  have hz2 : z = false := by rw [← hz]; simp [AJ, AE, *]
  subst hz2; apply Ar F; go_simp; (repeat apply Aq); refine AA F [0, 1, 2, 3] [4, 5, 6, 7, 8, 9, 10, 11, 12, 13, 14, 15, 16, 17, 18, 19, 20, 21, 22, 23, 24, 25, 26, 27, 28, 29, 30, 31, 32, 33] (by rfl) ?_; go_simp; apply lK 4; go_simp; apply lK 8; go_simp; apply lK 8; go_simp; refine Ap ?_; go_simp; apply Au; go_simp
 by_cases g22 : k1 = 22
 ·subst g22
  (iterate 3 apply Ar F;go_simp);(repeat apply Aq);apply Ab;(iterate 5 apply Ar F;go_simp;(repeat apply Aq);refine Af (by go_simp) ?_);apply Ar F;go_simp;(repeat apply Aq);refine At (by go_simp) ?_;apply As;go_simp;(repeat apply Aq);refine At (by go_simp) ?_;refine AW.prune [1, 3] [1000, 1] (by decide) ?_;go_simp;by_cases hm : m1 = 0
  ·subst hm
   by_cases hq : q1 = 0
   ·subst hq
    rcases b1 with _ | ⟨x, r⟩
    ·have hz2 : z = true := by rw [← hz]; simp [AJ, AE, *]
     subst hz2; apply Ar F; go_simp; (repeat apply Aq); refine AA F [0, 1, 2, 3] [4, 5, 6, 7, 8, 9, 10, 11, 12, 13, 14, 15, 16, 17, 18, 19, 20, 21, 22, 23, 24, 25, 26, 27, 28, 29, 30, 31, 32, 33] (by rfl) ?_; go_simp; apply lK 4; go_simp; apply lK 8; go_simp; apply lK 8; go_simp; refine Ap ?_; go_simp; apply Au; go_simp
    have hz2 : z = false := by rw [← hz]; simp [AJ, AE, *]
    subst hz2; apply Ar F; go_simp; (repeat apply Aq); refine AA F [0, 1, 2, 3] [4, 5, 6, 7, 8, 9, 10, 11, 12, 13, 14, 15, 16, 17, 18, 19, 20, 21, 22, 23, 24, 25, 26, 27, 28, 29, 30, 31, 32, 33] (by rfl) ?_; go_simp; apply lK 4; go_simp; apply lK 8; go_simp; apply lK 8; go_simp; refine Ap ?_; go_simp; apply Au; go_simp
   have hz2 : z = false := by rw [← hz]; simp [AJ, AE, *]
   subst hz2; apply Ar F; go_simp; (repeat apply Aq); refine AA F [0, 1, 2, 3] [4, 5, 6, 7, 8, 9, 10, 11, 12, 13, 14, 15, 16, 17, 18, 19, 20, 21, 22, 23, 24, 25, 26, 27, 28, 29, 30, 31, 32, 33] (by rfl) ?_; go_simp; apply lK 4; go_simp; apply lK 8; go_simp; apply lK 8; go_simp; refine Ap ?_; go_simp; apply Au; go_simp
  have hz2 : z = false := by rw [← hz]; simp [AJ, AE, *]
  subst hz2; apply Ar F; go_simp; (repeat apply Aq); refine AA F [0, 1, 2, 3] [4, 5, 6, 7, 8, 9, 10, 11, 12, 13, 14, 15, 16, 17, 18, 19, 20, 21, 22, 23, 24, 25, 26, 27, 28, 29, 30, 31, 32, 33] (by rfl) ?_; go_simp; apply lK 4; go_simp; apply lK 8; go_simp; apply lK 8; go_simp; refine Ap ?_; go_simp; apply Au; go_simp
 by_cases g23 : k1 = 23
 ·subst g23
  (iterate 3 apply Ar F;go_simp);(repeat apply Aq);apply Ab;(iterate 6 apply Ar F;go_simp;(repeat apply Aq);refine Af (by go_simp) ?_);apply Ar F;go_simp;(repeat apply Aq);refine At (by go_simp) ?_;apply As;go_simp;(repeat apply Aq);refine At (by go_simp) ?_;refine AW.prune [1, 3] [1000, 1] (by decide) ?_;go_simp;by_cases hm : m1 = 0
  ·subst hm
   by_cases hq : q1 = 0
   ·subst hq
    rcases b1 with _ | ⟨x, r⟩
    ·have hz2 : z = true := by rw [← hz]; simp [AJ, AE, *]
     subst hz2; apply Ar F; go_simp; (repeat apply Aq); refine AA F [0, 1, 2, 3] [4, 5, 6, 7, 8, 9, 10, 11, 12, 13, 14, 15, 16, 17, 18, 19, 20, 21, 22, 23, 24, 25, 26, 27, 28, 29, 30, 31, 32, 33] (by rfl) ?_; go_simp; apply lK 4; go_simp; apply lK 8; go_simp; apply lK 8; go_simp; refine Ap ?_; go_simp; apply Au; go_simp
    have hz2 : z = false := by rw [← hz]; simp [AJ, AE, *]
    subst hz2; apply Ar F; go_simp; (repeat apply Aq); refine AA F [0, 1, 2, 3] [4, 5, 6, 7, 8, 9, 10, 11, 12, 13, 14, 15, 16, 17, 18, 19, 20, 21, 22, 23, 24, 25, 26, 27, 28, 29, 30, 31, 32, 33] (by rfl) ?_; go_simp; apply lK 4; go_simp; apply lK 8; go_simp; apply lK 8; go_simp; refine Ap ?_; go_simp; apply Au; go_simp
   have hz2 : z = false := by rw [← hz]; simp [AJ, AE, *]
   subst hz2; apply Ar F; go_simp; (repeat apply Aq); refine AA F [0, 1, 2, 3] [4, 5, 6, 7, 8, 9, 10, 11, 12, 13, 14, 15, 16, 17, 18, 19, 20, 21, 22, 23, 24, 25, 26, 27, 28, 29, 30, 31, 32, 33] (by rfl) ?_; go_simp; apply lK 4; go_simp; apply lK 8; go_simp; apply lK 8; go_simp; refine Ap ?_; go_simp; apply Au; go_simp
  have hz2 : z = false := by rw [← hz]; simp [AJ, AE, *]
  subst hz2; apply Ar F; go_simp; (repeat apply Aq); refine AA F [0, 1, 2, 3] [4, 5, 6, 7, 8, 9, 10, 11, 12, 13, 14, 15, 16, 17, 18, 19, 20, 21, 22, 23, 24, 25, 26, 27, 28, 29, 30, 31, 32, 33] (by rfl) ?_; go_simp; apply lK 4; go_simp; apply lK 8; go_simp; apply lK 8; go_simp; refine Ap ?_; go_simp; apply Au; go_simp
 by_cases g24 : k1 = 24
 ·subst g24
  (iterate 3 apply Ar F;go_simp);(repeat apply Aq);apply Ab;(iterate 7 apply Ar F;go_simp;(repeat apply Aq);refine Af (by go_simp) ?_);apply Ar F;go_simp;(repeat apply Aq);refine At (by go_simp) ?_;apply As;go_simp;(repeat apply Aq);refine At (by go_simp) ?_;refine AW.prune [1, 3] [1000, 1] (by decide) ?_;go_simp;by_cases hm : m1 = 0
  ·subst hm
   by_cases hq : q1 = 0
   ·subst hq
    have hz2 : z = true := by rw [← hz]; simp [AJ, AE, *]
    subst hz2; apply Ar F; go_simp; (repeat apply Aq); refine AA F [0, 1, 2, 3] [4, 5, 6, 7, 8, 9, 10, 11, 12, 13, 14, 15, 16, 17, 18, 19, 20, 21, 22, 23, 24, 25, 26, 27, 28, 29, 30, 31, 32, 33] (by rfl) ?_; go_simp; apply lK 4; go_simp; apply lK 8; go_simp; apply lK 8; go_simp; refine Ap ?_; go_simp; apply Au; go_simp
   have hz2 : z = false := by rw [← hz]; simp [AJ, AE, *]
   subst hz2; apply Ar F; go_simp; (repeat apply Aq); refine AA F [0, 1, 2, 3] [4, 5, 6, 7, 8, 9, 10, 11, 12, 13, 14, 15, 16, 17, 18, 19, 20, 21, 22, 23, 24, 25, 26, 27, 28, 29, 30, 31, 32, 33] (by rfl) ?_; go_simp; apply lK 4; go_simp; apply lK 8; go_simp; apply lK 8; go_simp; refine Ap ?_; go_simp; apply Au; go_simp
  have hz2 : z = false := by rw [← hz]; simp [AJ, AE, *]
  subst hz2; apply Ar F; go_simp; (repeat apply Aq); refine AA F [0, 1, 2, 3] [4, 5, 6, 7, 8, 9, 10, 11, 12, 13, 14, 15, 16, 17, 18, 19, 20, 21, 22, 23, 24, 25, 26, 27, 28, 29, 30, 31, 32, 33] (by rfl) ?_; go_simp; apply lK 4; go_simp; apply lK 8; go_simp; apply lK 8; go_simp; refine Ap ?_; go_simp; apply Au; go_simp
 by_cases g25 : k1 = 25
 ·subst g25
  (iterate 3 apply Ar F;go_simp);(repeat apply Aq);apply Ab;(iterate 8 apply Ar F;go_simp;(repeat apply Aq);refine Af (by go_simp) ?_);apply Ar F;go_simp;(repeat apply Aq);refine At (by go_simp) ?_;refine AW.prune [1, 3] [1000, 1] (by decide) ?_;go_simp;by_cases hm : m1 = 0
  ·subst hm
   by_cases hq : q1 = 0
   ·subst hq
    rcases b1 with _ | ⟨x, r⟩
    ·have hz2 : z = true := by rw [← hz]; simp [AJ, AE, *]
     subst hz2; apply Ar F; go_simp; (repeat apply Aq); refine AA F [0, 1, 2, 3] [4, 5, 6, 7, 8, 9, 10, 11, 12, 13, 14, 15, 16, 17, 18, 19, 20, 21, 22, 23, 24, 25, 26, 27, 28, 29, 30, 31, 32, 33] (by rfl) ?_; go_simp; apply lK 4; go_simp; apply lK 8; go_simp; apply lK 8; go_simp; refine Ap ?_; go_simp; apply Au; go_simp
    have hz2 : z = false := by rw [← hz]; simp [AJ, AE, *]
    subst hz2; apply Ar F; go_simp; (repeat apply Aq); refine AA F [0, 1, 2, 3] [4, 5, 6, 7, 8, 9, 10, 11, 12, 13, 14, 15, 16, 17, 18, 19, 20, 21, 22, 23, 24, 25, 26, 27, 28, 29, 30, 31, 32, 33] (by rfl) ?_; go_simp; apply lK 4; go_simp; apply lK 8; go_simp; apply lK 8; go_simp; refine Ap ?_; go_simp; apply Au; go_simp
   have hz2 : z = false := by rw [← hz]; simp [AJ, AE, *]
   subst hz2; apply Ar F; go_simp; (repeat apply Aq); refine AA F [0, 1, 2, 3] [4, 5, 6, 7, 8, 9, 10, 11, 12, 13, 14, 15, 16, 17, 18, 19, 20, 21, 22, 23, 24, 25, 26, 27, 28, 29, 30, 31, 32, 33] (by rfl) ?_; go_simp; apply lK 4; go_simp; apply lK 8; go_simp; apply lK 8; go_simp; refine Ap ?_; go_simp; apply Au; go_simp
  have hz2 : z = false := by rw [← hz]; simp [AJ, AE, *]
  subst hz2; apply Ar F; go_simp; (repeat apply Aq); refine AA F [0, 1, 2, 3] [4, 5, 6, 7, 8, 9, 10, 11, 12, 13, 14, 15, 16, 17, 18, 19, 20, 21, 22, 23, 24, 25, 26, 27, 28, 29, 30, 31, 32, 33] (by rfl) ?_; go_simp; apply lK 4; go_simp; apply lK 8; go_simp; apply lK 8; go_simp; refine Ap ?_; go_simp; apply Au; go_simp
 (iterate 3 apply Ar F;go_simp);(repeat apply Aq);apply Ab;(iterate 9 apply Ar F;go_simp;(repeat apply Aq);refine Af (by go_simp) ?_);apply As;go_simp;refine AW.prune [1, 3] [1000, 1] (by decide) ?_;go_simp;by_cases hs : t1 = ⟨#[]⟩
 ·subst hs
  by_cases h2 : k1 = 2
  ·subst h2
   rcases b1 with _ | ⟨x, r⟩
   ·have hz2 : z = true := by rw [← hz]; simp [AJ, AE, *]
    subst hz2; (repeat apply Aq); refine AA F [0, 1, 2, 3] [4, 5, 6, 7, 8, 9, 10, 11, 12, 13, 14, 15, 16, 17, 18, 19, 20, 21, 22, 23, 24, 25, 26, 27, 28, 29, 30, 31, 32, 33] (by rfl) ?_; go_simp; apply lK 4; go_simp; apply lK 8; go_simp; apply lK 8; go_simp; refine Ap ?_; go_simp; apply Au; go_simp
   have hz2 : z = false := by rw [← hz]; simp [AJ, AE, *]
   subst hz2; (repeat apply Aq); refine AA F [0, 1, 2, 3] [4, 5, 6, 7, 8, 9, 10, 11, 12, 13, 14, 15, 16, 17, 18, 19, 20, 21, 22, 23, 24, 25, 26, 27, 28, 29, 30, 31, 32, 33] (by rfl) ?_; go_simp; apply lK 4; go_simp; apply lK 8; go_simp; apply lK 8; go_simp; refine Ap ?_; go_simp; apply Au; go_simp
  by_cases h6 : k1 = 6
  ·subst h6
   by_cases hm : m1 = 0
   ·subst hm
    by_cases hq : q1 = 0
    ·subst hq
     have hz2 : z = true := by rw [← hz]; simp [AJ, AE, *]
     subst hz2; (repeat apply Aq); refine AA F [0, 1, 2, 3] [4, 5, 6, 7, 8, 9, 10, 11, 12, 13, 14, 15, 16, 17, 18, 19, 20, 21, 22, 23, 24, 25, 26, 27, 28, 29, 30, 31, 32, 33] (by rfl) ?_; go_simp; apply lK 4; go_simp; apply lK 8; go_simp; apply lK 8; go_simp; refine Ap ?_; go_simp; apply Au; go_simp
    have hz2 : z = false := by rw [← hz]; simp [AJ, AE, *]
    subst hz2; (repeat apply Aq); refine AA F [0, 1, 2, 3] [4, 5, 6, 7, 8, 9, 10, 11, 12, 13, 14, 15, 16, 17, 18, 19, 20, 21, 22, 23, 24, 25, 26, 27, 28, 29, 30, 31, 32, 33] (by rfl) ?_; go_simp; apply lK 4; go_simp; apply lK 8; go_simp; apply lK 8; go_simp; refine Ap ?_; go_simp; apply Au; go_simp
   have hz2 : z = false := by rw [← hz]; simp [AJ, AE, *]
   subst hz2; (repeat apply Aq); refine AA F [0, 1, 2, 3] [4, 5, 6, 7, 8, 9, 10, 11, 12, 13, 14, 15, 16, 17, 18, 19, 20, 21, 22, 23, 24, 25, 26, 27, 28, 29, 30, 31, 32, 33] (by rfl) ?_; go_simp; apply lK 4; go_simp; apply lK 8; go_simp; apply lK 8; go_simp; refine Ap ?_; go_simp; apply Au; go_simp
  by_cases hm : m1 = 0
  ·subst hm
   by_cases hq : q1 = 0
   ·subst hq
    rcases b1 with _ | ⟨x, r⟩
    ·have hz2 : z = true := by rw [← hz]; simp [AJ, AE, *]
     subst hz2; (repeat apply Aq); refine AA F [0, 1, 2, 3] [4, 5, 6, 7, 8, 9, 10, 11, 12, 13, 14, 15, 16, 17, 18, 19, 20, 21, 22, 23, 24, 25, 26, 27, 28, 29, 30, 31, 32, 33] (by rfl) ?_; go_simp; apply lK 4; go_simp; apply lK 8; go_simp; apply lK 8; go_simp; refine Ap ?_; go_simp; apply Au; go_simp
    have hz2 : z = false := by rw [← hz]; simp [AJ, AE, *]
    subst hz2; (repeat apply Aq); refine AA F [0, 1, 2, 3] [4, 5, 6, 7, 8, 9, 10, 11, 12, 13, 14, 15, 16, 17, 18, 19, 20, 21, 22, 23, 24, 25, 26, 27, 28, 29, 30, 31, 32, 33] (by rfl) ?_; go_simp; apply lK 4; go_simp; apply lK 8; go_simp; apply lK 8; go_simp; refine Ap ?_; go_simp; apply Au; go_simp
   have hz2 : z = false := by rw [← hz]; simp [AJ, AE, *]
   subst hz2; (repeat apply Aq); refine AA F [0, 1, 2, 3] [4, 5, 6, 7, 8, 9, 10, 11, 12, 13, 14, 15, 16, 17, 18, 19, 20, 21, 22, 23, 24, 25, 26, 27, 28, 29, 30, 31, 32, 33] (by rfl) ?_; go_simp; apply lK 4; go_simp; apply lK 8; go_simp; apply lK 8; go_simp; refine Ap ?_; go_simp; apply Au; go_simp
  have hz2 : z = false := by rw [← hz]; simp [AJ, AE, *]
  subst hz2; (repeat apply Aq); refine AA F [0, 1, 2, 3] [4, 5, 6, 7, 8, 9, 10, 11, 12, 13, 14, 15, 16, 17, 18, 19, 20, 21, 22, 23, 24, 25, 26, 27, 28, 29, 30, 31, 32, 33] (by rfl) ?_; go_simp; apply lK 4; go_simp; apply lK 8; go_simp; apply lK 8; go_simp; refine Ap ?_; go_simp; apply Au; go_simp
 have hz2 : z = false := by rw [← hz]; simp [AJ, AE, *]
 subst hz2; (repeat apply Aq); refine AA F [0, 1, 2, 3] [4, 5, 6, 7, 8, 9, 10, 11, 12, 13, 14, 15, 16, 17, 18, 19, 20, 21, 22, 23, 24, 25, 26, 27, 28, 29, 30, 31, 32, 33] (by rfl) ?_; go_simp; apply lK 4; go_simp; apply lK 8; go_simp; apply lK 8; go_simp; refine Ap ?_; go_simp; apply Au; go_simp
end Go.Proofs.YtakncilicoefdaaGreatDoor
