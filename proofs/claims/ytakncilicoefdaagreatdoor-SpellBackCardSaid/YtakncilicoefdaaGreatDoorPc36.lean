/- Lemmas and contracts. Conditions: those that each lemma names. -/
import Derived.Test.YtakncilicoefdaaGreatDoorPc34
import Derived.Test.YtakncilicoefdaaGreatDoorPc23
set_option maxRecDepth 100000
set_option maxHeartbeats 40000000
namespace Go.Proofs.YtakncilicoefdaaGreatDoor
open Go Go.RowKit Go.Proofs Th
set_option maxRecDepth 8000
attribute [local go_sem] aops aopsD stepA chkD disj aguard isWant aop aval abuil acall acallP acallR argsIV valOf aput startS mkS numb look upd toIV allIV zeroFV aload setSeg afill aelems cellsOf toSl toVal valsOf aidx abin ainR FV.ok IV.one IV.er IV.erA IV.er1 iI sI bI nodeIV nodesIV tokIV parIV faultV resP lift AThen ABlock AEnd resL resV rload rcOf imsOf oneV nodeJ kidsJ strJ knownJ selfJ noNJ noTf foot owns pruneS filtF filtO Value.oneCell'
attribute [local go_sem] ti_node ti_tok ti_par ti_fault ti_nodes ti_toks ti_strs ti_ints ti_str ti_int ti_num ti_errno
attribute [local go_sem] sel
attribute [local go_sem] zeroN nodesIV_append nodesIV_len kidC rowC nodeF
attribute [local go_sem] nodesIV_getE List.map_append List.map_cons List.map_nil List.length_map
variable {G : World → CS → Prop}
theorem sp_bare (gk : GK G) (n : NJ) : ACalls Tryz.prog G 42 none [.agg (nodeIV n)] (.ret (bI (bareJ n)) []) := by
 have heq := eqTy_num; obtain ⟨k1, t1, m1, q1, l1, b1⟩ := n; obtain ⟨z, hz⟩ : ∃ z, bareJ (.mk k1 t1 m1 q1 l1 b1) = z := ⟨_, rfl⟩
 rw [hz]; have hr : ∀ r : List ByteArray, ¬ ((r.length : Int) + 1 = 0) := fun r => by omega
 refine ACalls.enter Tryz.func42 rfl rfl gk Tryz.ntmps42 fun X F => ?_
 by_cases g3 : k1 = 3
 ·subst g3
  apply Ar F; go_simp; apply Ar F; go_simp; apply Ar F; go_simp; (repeat apply Aq); apply Ab; apply Ar F; go_simp; (repeat apply Aq); refine At (by go_simp) ?_; apply As; go_simp; (repeat apply Aq); refine At (by go_simp) ?_; refine AW.prune [1, 3] [1000, 1] (by decide) ?_; go_simp; by_cases hm : m1 = 0
  ·subst hm
   by_cases hq : q1 = 0
   ·subst hq
    rcases b1 with _ | ⟨x, r⟩
    ·have hz2 : z = true := by rw [← hz]; simp [bareJ, namedK, *]
     subst hz2; apply Ar F; go_simp; (repeat apply Aq); refine AW.regL F [0, 1, 2, 3] [4, 5, 6, 7, 8, 9, 10, 11, 12, 13, 14, 15, 16, 17, 18, 19, 20, 21, 22, 23, 24, 25, 26, 27, 28, 29, 30, 31, 32, 33] (by rfl) ?_; go_simp; apply lK 4; go_simp; apply lK 8; go_simp; apply lK 8; go_simp; refine laterL_E ?_; go_simp; apply Au; go_simp
    have hz2 : z = false := by rw [← hz]; simp [bareJ, namedK, *]
    subst hz2; apply Ar F; go_simp; (repeat apply Aq); refine AW.regL F [0, 1, 2, 3] [4, 5, 6, 7, 8, 9, 10, 11, 12, 13, 14, 15, 16, 17, 18, 19, 20, 21, 22, 23, 24, 25, 26, 27, 28, 29, 30, 31, 32, 33] (by rfl) ?_; go_simp; apply lK 4; go_simp; apply lK 8; go_simp; apply lK 8; go_simp; refine laterL_E ?_; go_simp; apply Au; go_simp
   have hz2 : z = false := by rw [← hz]; simp [bareJ, namedK, *]
   subst hz2; apply Ar F; go_simp; (repeat apply Aq); refine AW.regL F [0, 1, 2, 3] [4, 5, 6, 7, 8, 9, 10, 11, 12, 13, 14, 15, 16, 17, 18, 19, 20, 21, 22, 23, 24, 25, 26, 27, 28, 29, 30, 31, 32, 33] (by rfl) ?_; go_simp; apply lK 4; go_simp; apply lK 8; go_simp; apply lK 8; go_simp; refine laterL_E ?_; go_simp; apply Au; go_simp
  have hz2 : z = false := by rw [← hz]; simp [bareJ, namedK, *]
  subst hz2; apply Ar F; go_simp; (repeat apply Aq); refine AW.regL F [0, 1, 2, 3] [4, 5, 6, 7, 8, 9, 10, 11, 12, 13, 14, 15, 16, 17, 18, 19, 20, 21, 22, 23, 24, 25, 26, 27, 28, 29, 30, 31, 32, 33] (by rfl) ?_; go_simp; apply lK 4; go_simp; apply lK 8; go_simp; apply lK 8; go_simp; refine laterL_E ?_; go_simp; apply Au; go_simp
 by_cases g10 : k1 = 10
 ·subst g10
  apply Ar F; go_simp; apply Ar F; go_simp; apply Ar F; go_simp; (repeat apply Aq); apply Ab; apply Ar F; go_simp; (repeat apply Aq); refine Af (by go_simp) ?_; apply Ar F; go_simp; (repeat apply Aq); refine At (by go_simp) ?_; apply As; go_simp; (repeat apply Aq); refine At (by go_simp) ?_; refine AW.prune [1, 3] [1000, 1] (by decide) ?_; go_simp; by_cases hm : m1 = 0
  ·subst hm
   by_cases hq : q1 = 0
   ·subst hq
    rcases b1 with _ | ⟨x, r⟩
    ·have hz2 : z = true := by rw [← hz]; simp [bareJ, namedK, *]
     subst hz2; apply Ar F; go_simp; (repeat apply Aq); refine AW.regL F [0, 1, 2, 3] [4, 5, 6, 7, 8, 9, 10, 11, 12, 13, 14, 15, 16, 17, 18, 19, 20, 21, 22, 23, 24, 25, 26, 27, 28, 29, 30, 31, 32, 33] (by rfl) ?_; go_simp; apply lK 4; go_simp; apply lK 8; go_simp; apply lK 8; go_simp; refine laterL_E ?_; go_simp; apply Au; go_simp
    have hz2 : z = false := by rw [← hz]; simp [bareJ, namedK, *]
    subst hz2; apply Ar F; go_simp; (repeat apply Aq); refine AW.regL F [0, 1, 2, 3] [4, 5, 6, 7, 8, 9, 10, 11, 12, 13, 14, 15, 16, 17, 18, 19, 20, 21, 22, 23, 24, 25, 26, 27, 28, 29, 30, 31, 32, 33] (by rfl) ?_; go_simp; apply lK 4; go_simp; apply lK 8; go_simp; apply lK 8; go_simp; refine laterL_E ?_; go_simp; apply Au; go_simp
   have hz2 : z = false := by rw [← hz]; simp [bareJ, namedK, *]
   subst hz2; apply Ar F; go_simp; (repeat apply Aq); refine AW.regL F [0, 1, 2, 3] [4, 5, 6, 7, 8, 9, 10, 11, 12, 13, 14, 15, 16, 17, 18, 19, 20, 21, 22, 23, 24, 25, 26, 27, 28, 29, 30, 31, 32, 33] (by rfl) ?_; go_simp; apply lK 4; go_simp; apply lK 8; go_simp; apply lK 8; go_simp; refine laterL_E ?_; go_simp; apply Au; go_simp
  have hz2 : z = false := by rw [← hz]; simp [bareJ, namedK, *]
  subst hz2; apply Ar F; go_simp; (repeat apply Aq); refine AW.regL F [0, 1, 2, 3] [4, 5, 6, 7, 8, 9, 10, 11, 12, 13, 14, 15, 16, 17, 18, 19, 20, 21, 22, 23, 24, 25, 26, 27, 28, 29, 30, 31, 32, 33] (by rfl) ?_; go_simp; apply lK 4; go_simp; apply lK 8; go_simp; apply lK 8; go_simp; refine laterL_E ?_; go_simp; apply Au; go_simp
 by_cases g19 : k1 = 19
 ·subst g19
  apply Ar F; go_simp; apply Ar F; go_simp; apply Ar F; go_simp; (repeat apply Aq); apply Ab; apply Ar F; go_simp; (repeat apply Aq); refine Af (by go_simp) ?_; apply Ar F; go_simp; (repeat apply Aq); refine Af (by go_simp) ?_; apply Ar F; go_simp; (repeat apply Aq); refine At (by go_simp) ?_; apply As; go_simp; (repeat apply Aq); refine At (by go_simp) ?_; refine AW.prune [1, 3] [1000, 1] (by decide) ?_; go_simp; by_cases hm : m1 = 0
  ·subst hm
   by_cases hq : q1 = 0
   ·subst hq
    rcases b1 with _ | ⟨x, r⟩
    ·have hz2 : z = true := by rw [← hz]; simp [bareJ, namedK, *]
     subst hz2; apply Ar F; go_simp; (repeat apply Aq); refine AW.regL F [0, 1, 2, 3] [4, 5, 6, 7, 8, 9, 10, 11, 12, 13, 14, 15, 16, 17, 18, 19, 20, 21, 22, 23, 24, 25, 26, 27, 28, 29, 30, 31, 32, 33] (by rfl) ?_; go_simp; apply lK 4; go_simp; apply lK 8; go_simp; apply lK 8; go_simp; refine laterL_E ?_; go_simp; apply Au; go_simp
    have hz2 : z = false := by rw [← hz]; simp [bareJ, namedK, *]
    subst hz2; apply Ar F; go_simp; (repeat apply Aq); refine AW.regL F [0, 1, 2, 3] [4, 5, 6, 7, 8, 9, 10, 11, 12, 13, 14, 15, 16, 17, 18, 19, 20, 21, 22, 23, 24, 25, 26, 27, 28, 29, 30, 31, 32, 33] (by rfl) ?_; go_simp; apply lK 4; go_simp; apply lK 8; go_simp; apply lK 8; go_simp; refine laterL_E ?_; go_simp; apply Au; go_simp
   have hz2 : z = false := by rw [← hz]; simp [bareJ, namedK, *]
   subst hz2; apply Ar F; go_simp; (repeat apply Aq); refine AW.regL F [0, 1, 2, 3] [4, 5, 6, 7, 8, 9, 10, 11, 12, 13, 14, 15, 16, 17, 18, 19, 20, 21, 22, 23, 24, 25, 26, 27, 28, 29, 30, 31, 32, 33] (by rfl) ?_; go_simp; apply lK 4; go_simp; apply lK 8; go_simp; apply lK 8; go_simp; refine laterL_E ?_; go_simp; apply Au; go_simp
  have hz2 : z = false := by rw [← hz]; simp [bareJ, namedK, *]
  subst hz2; apply Ar F; go_simp; (repeat apply Aq); refine AW.regL F [0, 1, 2, 3] [4, 5, 6, 7, 8, 9, 10, 11, 12, 13, 14, 15, 16, 17, 18, 19, 20, 21, 22, 23, 24, 25, 26, 27, 28, 29, 30, 31, 32, 33] (by rfl) ?_; go_simp; apply lK 4; go_simp; apply lK 8; go_simp; apply lK 8; go_simp; refine laterL_E ?_; go_simp; apply Au; go_simp
 by_cases g20 : k1 = 20
 ·subst g20
  apply Ar F; go_simp; apply Ar F; go_simp; apply Ar F; go_simp; (repeat apply Aq); apply Ab; apply Ar F; go_simp; (repeat apply Aq); refine Af (by go_simp) ?_; apply Ar F; go_simp; (repeat apply Aq); refine Af (by go_simp) ?_; apply Ar F; go_simp; (repeat apply Aq); refine Af (by go_simp) ?_; apply Ar F; go_simp; (repeat apply Aq); refine At (by go_simp) ?_; apply As; go_simp; (repeat apply Aq); refine At (by go_simp) ?_; refine AW.prune [1, 3] [1000, 1] (by decide) ?_; go_simp; by_cases hm : m1 = 0
  ·subst hm
   by_cases hq : q1 = 0
   ·subst hq
    rcases b1 with _ | ⟨x, r⟩
    ·have hz2 : z = true := by rw [← hz]; simp [bareJ, namedK, *]
     subst hz2; apply Ar F; go_simp; (repeat apply Aq); refine AW.regL F [0, 1, 2, 3] [4, 5, 6, 7, 8, 9, 10, 11, 12, 13, 14, 15, 16, 17, 18, 19, 20, 21, 22, 23, 24, 25, 26, 27, 28, 29, 30, 31, 32, 33] (by rfl) ?_; go_simp; apply lK 4; go_simp; apply lK 8; go_simp; apply lK 8; go_simp; refine laterL_E ?_; go_simp; apply Au; go_simp
    have hz2 : z = false := by rw [← hz]; simp [bareJ, namedK, *]
    subst hz2; apply Ar F; go_simp; (repeat apply Aq); refine AW.regL F [0, 1, 2, 3] [4, 5, 6, 7, 8, 9, 10, 11, 12, 13, 14, 15, 16, 17, 18, 19, 20, 21, 22, 23, 24, 25, 26, 27, 28, 29, 30, 31, 32, 33] (by rfl) ?_; go_simp; apply lK 4; go_simp; apply lK 8; go_simp; apply lK 8; go_simp; refine laterL_E ?_; go_simp; apply Au; go_simp
   have hz2 : z = false := by rw [← hz]; simp [bareJ, namedK, *]
   subst hz2; apply Ar F; go_simp; (repeat apply Aq); refine AW.regL F [0, 1, 2, 3] [4, 5, 6, 7, 8, 9, 10, 11, 12, 13, 14, 15, 16, 17, 18, 19, 20, 21, 22, 23, 24, 25, 26, 27, 28, 29, 30, 31, 32, 33] (by rfl) ?_; go_simp; apply lK 4; go_simp; apply lK 8; go_simp; apply lK 8; go_simp; refine laterL_E ?_; go_simp; apply Au; go_simp
  have hz2 : z = false := by rw [← hz]; simp [bareJ, namedK, *]
  subst hz2; apply Ar F; go_simp; (repeat apply Aq); refine AW.regL F [0, 1, 2, 3] [4, 5, 6, 7, 8, 9, 10, 11, 12, 13, 14, 15, 16, 17, 18, 19, 20, 21, 22, 23, 24, 25, 26, 27, 28, 29, 30, 31, 32, 33] (by rfl) ?_; go_simp; apply lK 4; go_simp; apply lK 8; go_simp; apply lK 8; go_simp; refine laterL_E ?_; go_simp; apply Au; go_simp
 by_cases g21 : k1 = 21
 ·subst g21
  apply Ar F; go_simp; apply Ar F; go_simp; apply Ar F; go_simp; (repeat apply Aq); apply Ab; apply Ar F; go_simp; (repeat apply Aq); refine Af (by go_simp) ?_; apply Ar F; go_simp; (repeat apply Aq); refine Af (by go_simp) ?_; apply Ar F; go_simp; (repeat apply Aq); refine Af (by go_simp) ?_; apply Ar F; go_simp; (repeat apply Aq); refine Af (by go_simp) ?_; apply Ar F; go_simp; (repeat apply Aq); refine At (by go_simp) ?_; apply As; go_simp; (repeat apply Aq); refine At (by go_simp) ?_; refine AW.prune [1, 3] [1000, 1] (by decide) ?_; go_simp; by_cases hm : m1 = 0
  ·subst hm
   by_cases hq : q1 = 0
   ·subst hq
    rcases b1 with _ | ⟨x, r⟩
    ·have hz2 : z = true := by rw [← hz]; simp [bareJ, namedK, *]
     subst hz2; apply Ar F; go_simp; (repeat apply Aq); refine AW.regL F [0, 1, 2, 3] [4, 5, 6, 7, 8, 9, 10, 11, 12, 13, 14, 15, 16, 17, 18, 19, 20, 21, 22, 23, 24, 25, 26, 27, 28, 29, 30, 31, 32, 33] (by rfl) ?_; go_simp; apply lK 4; go_simp; apply lK 8; go_simp; apply lK 8; go_simp; refine laterL_E ?_; go_simp; apply Au; go_simp
    have hz2 : z = false := by rw [← hz]; simp [bareJ, namedK, *]
    subst hz2; apply Ar F; go_simp; (repeat apply Aq); refine AW.regL F [0, 1, 2, 3] [4, 5, 6, 7, 8, 9, 10, 11, 12, 13, 14, 15, 16, 17, 18, 19, 20, 21, 22, 23, 24, 25, 26, 27, 28, 29, 30, 31, 32, 33] (by rfl) ?_; go_simp; apply lK 4; go_simp; apply lK 8; go_simp; apply lK 8; go_simp; refine laterL_E ?_; go_simp; apply Au; go_simp
   have hz2 : z = false := by rw [← hz]; simp [bareJ, namedK, *]
   subst hz2; apply Ar F; go_simp; (repeat apply Aq); refine AW.regL F [0, 1, 2, 3] [4, 5, 6, 7, 8, 9, 10, 11, 12, 13, 14, 15, 16, 17, 18, 19, 20, 21, 22, 23, 24, 25, 26, 27, 28, 29, 30, 31, 32, 33] (by rfl) ?_; go_simp; apply lK 4; go_simp; apply lK 8; go_simp; apply lK 8; go_simp; refine laterL_E ?_; go_simp; apply Au; go_simp
  have hz2 : z = false := by rw [← hz]; simp [bareJ, namedK, *]
  subst hz2; apply Ar F; go_simp; (repeat apply Aq); refine AW.regL F [0, 1, 2, 3] [4, 5, 6, 7, 8, 9, 10, 11, 12, 13, 14, 15, 16, 17, 18, 19, 20, 21, 22, 23, 24, 25, 26, 27, 28, 29, 30, 31, 32, 33] (by rfl) ?_; go_simp; apply lK 4; go_simp; apply lK 8; go_simp; apply lK 8; go_simp; refine laterL_E ?_; go_simp; apply Au; go_simp
 by_cases g22 : k1 = 22
 ·subst g22
  apply Ar F; go_simp; apply Ar F; go_simp; apply Ar F; go_simp; (repeat apply Aq); apply Ab; apply Ar F; go_simp; (repeat apply Aq); refine Af (by go_simp) ?_; apply Ar F; go_simp; (repeat apply Aq); refine Af (by go_simp) ?_; apply Ar F; go_simp; (repeat apply Aq); refine Af (by go_simp) ?_; apply Ar F; go_simp; (repeat apply Aq); refine Af (by go_simp) ?_; apply Ar F; go_simp; (repeat apply Aq); refine Af (by go_simp) ?_; apply Ar F; go_simp; (repeat apply Aq); refine At (by go_simp) ?_; apply As; go_simp; (repeat apply Aq); refine At (by go_simp) ?_; refine AW.prune [1, 3] [1000, 1] (by decide) ?_; go_simp; by_cases hm : m1 = 0
  ·subst hm
   by_cases hq : q1 = 0
   ·subst hq
    rcases b1 with _ | ⟨x, r⟩
    ·have hz2 : z = true := by rw [← hz]; simp [bareJ, namedK, *]
     subst hz2; apply Ar F; go_simp; (repeat apply Aq); refine AW.regL F [0, 1, 2, 3] [4, 5, 6, 7, 8, 9, 10, 11, 12, 13, 14, 15, 16, 17, 18, 19, 20, 21, 22, 23, 24, 25, 26, 27, 28, 29, 30, 31, 32, 33] (by rfl) ?_; go_simp; apply lK 4; go_simp; apply lK 8; go_simp; apply lK 8; go_simp; refine laterL_E ?_; go_simp; apply Au; go_simp
    have hz2 : z = false := by rw [← hz]; simp [bareJ, namedK, *]
    subst hz2; apply Ar F; go_simp; (repeat apply Aq); refine AW.regL F [0, 1, 2, 3] [4, 5, 6, 7, 8, 9, 10, 11, 12, 13, 14, 15, 16, 17, 18, 19, 20, 21, 22, 23, 24, 25, 26, 27, 28, 29, 30, 31, 32, 33] (by rfl) ?_; go_simp; apply lK 4; go_simp; apply lK 8; go_simp; apply lK 8; go_simp; refine laterL_E ?_; go_simp; apply Au; go_simp
   have hz2 : z = false := by rw [← hz]; simp [bareJ, namedK, *]
   subst hz2; apply Ar F; go_simp; (repeat apply Aq); refine AW.regL F [0, 1, 2, 3] [4, 5, 6, 7, 8, 9, 10, 11, 12, 13, 14, 15, 16, 17, 18, 19, 20, 21, 22, 23, 24, 25, 26, 27, 28, 29, 30, 31, 32, 33] (by rfl) ?_; go_simp; apply lK 4; go_simp; apply lK 8; go_simp; apply lK 8; go_simp; refine laterL_E ?_; go_simp; apply Au; go_simp
  have hz2 : z = false := by rw [← hz]; simp [bareJ, namedK, *]
  subst hz2; apply Ar F; go_simp; (repeat apply Aq); refine AW.regL F [0, 1, 2, 3] [4, 5, 6, 7, 8, 9, 10, 11, 12, 13, 14, 15, 16, 17, 18, 19, 20, 21, 22, 23, 24, 25, 26, 27, 28, 29, 30, 31, 32, 33] (by rfl) ?_; go_simp; apply lK 4; go_simp; apply lK 8; go_simp; apply lK 8; go_simp; refine laterL_E ?_; go_simp; apply Au; go_simp
 by_cases g23 : k1 = 23
 ·subst g23
  apply Ar F; go_simp; apply Ar F; go_simp; apply Ar F; go_simp; (repeat apply Aq); apply Ab; apply Ar F; go_simp; (repeat apply Aq); refine Af (by go_simp) ?_; apply Ar F; go_simp; (repeat apply Aq); refine Af (by go_simp) ?_; apply Ar F; go_simp; (repeat apply Aq); refine Af (by go_simp) ?_; apply Ar F; go_simp; (repeat apply Aq); refine Af (by go_simp) ?_; apply Ar F; go_simp; (repeat apply Aq); refine Af (by go_simp) ?_; apply Ar F; go_simp; (repeat apply Aq); refine Af (by go_simp) ?_; apply Ar F; go_simp; (repeat apply Aq); refine At (by go_simp) ?_; apply As; go_simp; (repeat apply Aq); refine At (by go_simp) ?_; refine AW.prune [1, 3] [1000, 1] (by decide) ?_; go_simp; by_cases hm : m1 = 0
  ·subst hm
   by_cases hq : q1 = 0
   ·subst hq
    rcases b1 with _ | ⟨x, r⟩
    ·have hz2 : z = true := by rw [← hz]; simp [bareJ, namedK, *]
     subst hz2; apply Ar F; go_simp; (repeat apply Aq); refine AW.regL F [0, 1, 2, 3] [4, 5, 6, 7, 8, 9, 10, 11, 12, 13, 14, 15, 16, 17, 18, 19, 20, 21, 22, 23, 24, 25, 26, 27, 28, 29, 30, 31, 32, 33] (by rfl) ?_; go_simp; apply lK 4; go_simp; apply lK 8; go_simp; apply lK 8; go_simp; refine laterL_E ?_; go_simp; apply Au; go_simp
    have hz2 : z = false := by rw [← hz]; simp [bareJ, namedK, *]
    subst hz2; apply Ar F; go_simp; (repeat apply Aq); refine AW.regL F [0, 1, 2, 3] [4, 5, 6, 7, 8, 9, 10, 11, 12, 13, 14, 15, 16, 17, 18, 19, 20, 21, 22, 23, 24, 25, 26, 27, 28, 29, 30, 31, 32, 33] (by rfl) ?_; go_simp; apply lK 4; go_simp; apply lK 8; go_simp; apply lK 8; go_simp; refine laterL_E ?_; go_simp; apply Au; go_simp
   have hz2 : z = false := by rw [← hz]; simp [bareJ, namedK, *]
   subst hz2; apply Ar F; go_simp; (repeat apply Aq); refine AW.regL F [0, 1, 2, 3] [4, 5, 6, 7, 8, 9, 10, 11, 12, 13, 14, 15, 16, 17, 18, 19, 20, 21, 22, 23, 24, 25, 26, 27, 28, 29, 30, 31, 32, 33] (by rfl) ?_; go_simp; apply lK 4; go_simp; apply lK 8; go_simp; apply lK 8; go_simp; refine laterL_E ?_; go_simp; apply Au; go_simp
  have hz2 : z = false := by rw [← hz]; simp [bareJ, namedK, *]
  subst hz2; apply Ar F; go_simp; (repeat apply Aq); refine AW.regL F [0, 1, 2, 3] [4, 5, 6, 7, 8, 9, 10, 11, 12, 13, 14, 15, 16, 17, 18, 19, 20, 21, 22, 23, 24, 25, 26, 27, 28, 29, 30, 31, 32, 33] (by rfl) ?_; go_simp; apply lK 4; go_simp; apply lK 8; go_simp; apply lK 8; go_simp; refine laterL_E ?_; go_simp; apply Au; go_simp
 by_cases g24 : k1 = 24
 ·subst g24
  apply Ar F; go_simp; apply Ar F; go_simp; apply Ar F; go_simp; (repeat apply Aq); apply Ab; apply Ar F; go_simp; (repeat apply Aq); refine Af (by go_simp) ?_; apply Ar F; go_simp; (repeat apply Aq); refine Af (by go_simp) ?_; apply Ar F; go_simp; (repeat apply Aq); refine Af (by go_simp) ?_; apply Ar F; go_simp; (repeat apply Aq); refine Af (by go_simp) ?_; apply Ar F; go_simp; (repeat apply Aq); refine Af (by go_simp) ?_; apply Ar F; go_simp; (repeat apply Aq); refine Af (by go_simp) ?_; apply Ar F; go_simp; (repeat apply Aq); refine Af (by go_simp) ?_; apply Ar F; go_simp; (repeat apply Aq); refine At (by go_simp) ?_; apply As; go_simp; (repeat apply Aq); refine At (by go_simp) ?_; refine AW.prune [1, 3] [1000, 1] (by decide) ?_; go_simp; by_cases hm : m1 = 0
  ·subst hm
   by_cases hq : q1 = 0
   ·subst hq
    have hz2 : z = true := by rw [← hz]; simp [bareJ, namedK, *]
    subst hz2; apply Ar F; go_simp; (repeat apply Aq); refine AW.regL F [0, 1, 2, 3] [4, 5, 6, 7, 8, 9, 10, 11, 12, 13, 14, 15, 16, 17, 18, 19, 20, 21, 22, 23, 24, 25, 26, 27, 28, 29, 30, 31, 32, 33] (by rfl) ?_; go_simp; apply lK 4; go_simp; apply lK 8; go_simp; apply lK 8; go_simp; refine laterL_E ?_; go_simp; apply Au; go_simp
   have hz2 : z = false := by rw [← hz]; simp [bareJ, namedK, *]
   subst hz2; apply Ar F; go_simp; (repeat apply Aq); refine AW.regL F [0, 1, 2, 3] [4, 5, 6, 7, 8, 9, 10, 11, 12, 13, 14, 15, 16, 17, 18, 19, 20, 21, 22, 23, 24, 25, 26, 27, 28, 29, 30, 31, 32, 33] (by rfl) ?_; go_simp; apply lK 4; go_simp; apply lK 8; go_simp; apply lK 8; go_simp; refine laterL_E ?_; go_simp; apply Au; go_simp
  have hz2 : z = false := by rw [← hz]; simp [bareJ, namedK, *]
  subst hz2; apply Ar F; go_simp; (repeat apply Aq); refine AW.regL F [0, 1, 2, 3] [4, 5, 6, 7, 8, 9, 10, 11, 12, 13, 14, 15, 16, 17, 18, 19, 20, 21, 22, 23, 24, 25, 26, 27, 28, 29, 30, 31, 32, 33] (by rfl) ?_; go_simp; apply lK 4; go_simp; apply lK 8; go_simp; apply lK 8; go_simp; refine laterL_E ?_; go_simp; apply Au; go_simp
 by_cases g25 : k1 = 25
 ·subst g25
  apply Ar F; go_simp; apply Ar F; go_simp; apply Ar F; go_simp; (repeat apply Aq); apply Ab; apply Ar F; go_simp; (repeat apply Aq); refine Af (by go_simp) ?_; apply Ar F; go_simp; (repeat apply Aq); refine Af (by go_simp) ?_; apply Ar F; go_simp; (repeat apply Aq); refine Af (by go_simp) ?_; apply Ar F; go_simp; (repeat apply Aq); refine Af (by go_simp) ?_; apply Ar F; go_simp; (repeat apply Aq); refine Af (by go_simp) ?_; apply Ar F; go_simp; (repeat apply Aq); refine Af (by go_simp) ?_; apply Ar F; go_simp; (repeat apply Aq); refine Af (by go_simp) ?_; apply Ar F; go_simp; (repeat apply Aq); refine Af (by go_simp) ?_; apply Ar F; go_simp; (repeat apply Aq); refine At (by go_simp) ?_; refine AW.prune [1, 3] [1000, 1] (by decide) ?_; go_simp; by_cases hm : m1 = 0
  ·subst hm
   by_cases hq : q1 = 0
   ·subst hq
    rcases b1 with _ | ⟨x, r⟩
    ·have hz2 : z = true := by rw [← hz]; simp [bareJ, namedK, *]
     subst hz2; apply Ar F; go_simp; (repeat apply Aq); refine AW.regL F [0, 1, 2, 3] [4, 5, 6, 7, 8, 9, 10, 11, 12, 13, 14, 15, 16, 17, 18, 19, 20, 21, 22, 23, 24, 25, 26, 27, 28, 29, 30, 31, 32, 33] (by rfl) ?_; go_simp; apply lK 4; go_simp; apply lK 8; go_simp; apply lK 8; go_simp; refine laterL_E ?_; go_simp; apply Au; go_simp
    have hz2 : z = false := by rw [← hz]; simp [bareJ, namedK, *]
    subst hz2; apply Ar F; go_simp; (repeat apply Aq); refine AW.regL F [0, 1, 2, 3] [4, 5, 6, 7, 8, 9, 10, 11, 12, 13, 14, 15, 16, 17, 18, 19, 20, 21, 22, 23, 24, 25, 26, 27, 28, 29, 30, 31, 32, 33] (by rfl) ?_; go_simp; apply lK 4; go_simp; apply lK 8; go_simp; apply lK 8; go_simp; refine laterL_E ?_; go_simp; apply Au; go_simp
   have hz2 : z = false := by rw [← hz]; simp [bareJ, namedK, *]
   subst hz2; apply Ar F; go_simp; (repeat apply Aq); refine AW.regL F [0, 1, 2, 3] [4, 5, 6, 7, 8, 9, 10, 11, 12, 13, 14, 15, 16, 17, 18, 19, 20, 21, 22, 23, 24, 25, 26, 27, 28, 29, 30, 31, 32, 33] (by rfl) ?_; go_simp; apply lK 4; go_simp; apply lK 8; go_simp; apply lK 8; go_simp; refine laterL_E ?_; go_simp; apply Au; go_simp
  have hz2 : z = false := by rw [← hz]; simp [bareJ, namedK, *]
  subst hz2; apply Ar F; go_simp; (repeat apply Aq); refine AW.regL F [0, 1, 2, 3] [4, 5, 6, 7, 8, 9, 10, 11, 12, 13, 14, 15, 16, 17, 18, 19, 20, 21, 22, 23, 24, 25, 26, 27, 28, 29, 30, 31, 32, 33] (by rfl) ?_; go_simp; apply lK 4; go_simp; apply lK 8; go_simp; apply lK 8; go_simp; refine laterL_E ?_; go_simp; apply Au; go_simp
 apply Ar F; go_simp; apply Ar F; go_simp; apply Ar F; go_simp; (repeat apply Aq); apply Ab; apply Ar F; go_simp; (repeat apply Aq); refine Af (by go_simp) ?_; apply Ar F; go_simp; (repeat apply Aq); refine Af (by go_simp) ?_; apply Ar F; go_simp; (repeat apply Aq); refine Af (by go_simp) ?_; apply Ar F; go_simp; (repeat apply Aq); refine Af (by go_simp) ?_; apply Ar F; go_simp; (repeat apply Aq); refine Af (by go_simp) ?_; apply Ar F; go_simp; (repeat apply Aq); refine Af (by go_simp) ?_; apply Ar F; go_simp; (repeat apply Aq); refine Af (by go_simp) ?_; apply Ar F; go_simp; (repeat apply Aq); refine Af (by go_simp) ?_; apply Ar F; go_simp; (repeat apply Aq); refine Af (by go_simp) ?_; apply As; go_simp; refine AW.prune [1, 3] [1000, 1] (by decide) ?_; go_simp; by_cases hs : t1 = ⟨#[]⟩
 ·subst hs
  by_cases h2 : k1 = 2
  ·subst h2
   rcases b1 with _ | ⟨x, r⟩
   ·have hz2 : z = true := by rw [← hz]; simp [bareJ, namedK, *]
    subst hz2; (repeat apply Aq); refine AW.regL F [0, 1, 2, 3] [4, 5, 6, 7, 8, 9, 10, 11, 12, 13, 14, 15, 16, 17, 18, 19, 20, 21, 22, 23, 24, 25, 26, 27, 28, 29, 30, 31, 32, 33] (by rfl) ?_; go_simp; apply lK 4; go_simp; apply lK 8; go_simp; apply lK 8; go_simp; refine laterL_E ?_; go_simp; apply Au; go_simp
   have hz2 : z = false := by rw [← hz]; simp [bareJ, namedK, *]
   subst hz2; (repeat apply Aq); refine AW.regL F [0, 1, 2, 3] [4, 5, 6, 7, 8, 9, 10, 11, 12, 13, 14, 15, 16, 17, 18, 19, 20, 21, 22, 23, 24, 25, 26, 27, 28, 29, 30, 31, 32, 33] (by rfl) ?_; go_simp; apply lK 4; go_simp; apply lK 8; go_simp; apply lK 8; go_simp; refine laterL_E ?_; go_simp; apply Au; go_simp
  by_cases h6 : k1 = 6
  ·subst h6
   by_cases hm : m1 = 0
   ·subst hm
    by_cases hq : q1 = 0
    ·subst hq
     have hz2 : z = true := by rw [← hz]; simp [bareJ, namedK, *]
     subst hz2; (repeat apply Aq); refine AW.regL F [0, 1, 2, 3] [4, 5, 6, 7, 8, 9, 10, 11, 12, 13, 14, 15, 16, 17, 18, 19, 20, 21, 22, 23, 24, 25, 26, 27, 28, 29, 30, 31, 32, 33] (by rfl) ?_; go_simp; apply lK 4; go_simp; apply lK 8; go_simp; apply lK 8; go_simp; refine laterL_E ?_; go_simp; apply Au; go_simp
    have hz2 : z = false := by rw [← hz]; simp [bareJ, namedK, *]
    subst hz2; (repeat apply Aq); refine AW.regL F [0, 1, 2, 3] [4, 5, 6, 7, 8, 9, 10, 11, 12, 13, 14, 15, 16, 17, 18, 19, 20, 21, 22, 23, 24, 25, 26, 27, 28, 29, 30, 31, 32, 33] (by rfl) ?_; go_simp; apply lK 4; go_simp; apply lK 8; go_simp; apply lK 8; go_simp; refine laterL_E ?_; go_simp; apply Au; go_simp
   have hz2 : z = false := by rw [← hz]; simp [bareJ, namedK, *]
   subst hz2; (repeat apply Aq); refine AW.regL F [0, 1, 2, 3] [4, 5, 6, 7, 8, 9, 10, 11, 12, 13, 14, 15, 16, 17, 18, 19, 20, 21, 22, 23, 24, 25, 26, 27, 28, 29, 30, 31, 32, 33] (by rfl) ?_; go_simp; apply lK 4; go_simp; apply lK 8; go_simp; apply lK 8; go_simp; refine laterL_E ?_; go_simp; apply Au; go_simp
  by_cases hm : m1 = 0
  ·subst hm
   by_cases hq : q1 = 0
   ·subst hq
    rcases b1 with _ | ⟨x, r⟩
    ·have hz2 : z = true := by rw [← hz]; simp [bareJ, namedK, *]
     subst hz2; (repeat apply Aq); refine AW.regL F [0, 1, 2, 3] [4, 5, 6, 7, 8, 9, 10, 11, 12, 13, 14, 15, 16, 17, 18, 19, 20, 21, 22, 23, 24, 25, 26, 27, 28, 29, 30, 31, 32, 33] (by rfl) ?_; go_simp; apply lK 4; go_simp; apply lK 8; go_simp; apply lK 8; go_simp; refine laterL_E ?_; go_simp; apply Au; go_simp
    have hz2 : z = false := by rw [← hz]; simp [bareJ, namedK, *]
    subst hz2; (repeat apply Aq); refine AW.regL F [0, 1, 2, 3] [4, 5, 6, 7, 8, 9, 10, 11, 12, 13, 14, 15, 16, 17, 18, 19, 20, 21, 22, 23, 24, 25, 26, 27, 28, 29, 30, 31, 32, 33] (by rfl) ?_; go_simp; apply lK 4; go_simp; apply lK 8; go_simp; apply lK 8; go_simp; refine laterL_E ?_; go_simp; apply Au; go_simp
   have hz2 : z = false := by rw [← hz]; simp [bareJ, namedK, *]
   subst hz2; (repeat apply Aq); refine AW.regL F [0, 1, 2, 3] [4, 5, 6, 7, 8, 9, 10, 11, 12, 13, 14, 15, 16, 17, 18, 19, 20, 21, 22, 23, 24, 25, 26, 27, 28, 29, 30, 31, 32, 33] (by rfl) ?_; go_simp; apply lK 4; go_simp; apply lK 8; go_simp; apply lK 8; go_simp; refine laterL_E ?_; go_simp; apply Au; go_simp
  have hz2 : z = false := by rw [← hz]; simp [bareJ, namedK, *]
  subst hz2; (repeat apply Aq); refine AW.regL F [0, 1, 2, 3] [4, 5, 6, 7, 8, 9, 10, 11, 12, 13, 14, 15, 16, 17, 18, 19, 20, 21, 22, 23, 24, 25, 26, 27, 28, 29, 30, 31, 32, 33] (by rfl) ?_; go_simp; apply lK 4; go_simp; apply lK 8; go_simp; apply lK 8; go_simp; refine laterL_E ?_; go_simp; apply Au; go_simp
 have hz2 : z = false := by rw [← hz]; simp [bareJ, namedK, *]
 subst hz2; (repeat apply Aq); refine AW.regL F [0, 1, 2, 3] [4, 5, 6, 7, 8, 9, 10, 11, 12, 13, 14, 15, 16, 17, 18, 19, 20, 21, 22, 23, 24, 25, 26, 27, 28, 29, 30, 31, 32, 33] (by rfl) ?_; go_simp; apply lK 4; go_simp; apply lK 8; go_simp; apply lK 8; go_simp; refine laterL_E ?_; go_simp; apply Au; go_simp
open Go Go.RowKit Go.Proofs Th
set_option maxRecDepth 8000
attribute [local go_sem] zeroM boxesAt AGo
theorem parse_scan (s : ByteArray) (hs : s.size ≤ 50000) (he : (scanF (toL s)).2.2 ≠ 0) : ACalls Tryz.prog GX 15 none [sI s] (.ret (.tup [.agg (nodeIV noNJ), iI (scanF (toL s)).2.1, iI (scanF (toL s)).2.2]) []) := by
 have gk := gkX; have cs := scanX s hs; obtain ⟨⟨l, x, ee⟩, hq⟩ : ∃ q, scanF (toL s) = q := ⟨_, rfl⟩
 rw [hq] at cs he ⊢; dsimp only at cs he ⊢; have he2 : ¬ (ee : Int) = 0 := by omega
 clear hq; refine ACalls.enter Tryz.func15 rfl rfl gk Tryz.ntmps15 fun X F => ?_
 apply Ar F; go_simp; apply Ar F; go_simp; refine ⟨_, cs, ?_⟩; go_simp; apply Ar F; go_simp; (repeat apply Aq); refine At (by go_simp) ?_; (repeat apply Aq); refine Ad F [0, 1, 2, 3, 4, 5] [(1, 3), (2, 3), (2, 4)] mixed (by kernel_rfl) ?_; go_simp; apply Au; go_simp
def resT : PR NJ → List IV
 | .bad a e => [.agg (nodeIV noNJ), iI a, iI e]
 | .ok n _ => if shJ 48 n = true then [.agg (nodeIV n), iI 0, iI 0] else [.agg (nodeIV noNJ), iI 0, iI 31]
def ParEnd (p2 p3 p4 : Nat) (res : ARes) : AExit → ASt → Prop
 | .normal, s => AEnd Tryz.prog Tryz.f15 res .normal s
 | .ret, s => AEnd Tryz.prog Tryz.f15 res .ret s
 | .panic x, s => ∃ (a e : Nat) (u0 u1 u2 u3 u4 u5 v w : IV), x = faultV a e ∧ s.fr 8 = .pin 2 p2 ∧ s.fr 9 = .pin 3 p3 ∧ s.fr 7 = .pin 4 p4 ∧ s.fr 2 = .ptr 2 0 ∧ s.fr 3 = .ptr 3 0 ∧ s.fr 4 = .ptr 4 0 ∧ s.st 2 = .box ([u0, u1, u2, u3, u4, u5].map .im) ∧ s.st 3 = .box ([v].map .im) ∧ s.st 4 = .box ([w].map .im) ∧ res = .ret (.tup [.agg (nodeIV noNJ), iI a, iI e]) []
 | _, _ => False
attribute [local go_sem] ParEnd resT
theorem parse_go (s : ByteArray) (hs : s.size ≤ 50000) (he : (scanF (toL s)).2.2 = 0) (f : Nat) (r : PR NJ) (h : runP f (envOf (toL s) 0) .whole 0 = some r) : ACalls Tryz.prog GX 15 none [sI s] (.ret (.tup (resT r)) []) := by
 have cs := scanX s hs; have cw := whole_go _ (envOf_eb (toL s) 0 (by rw [toL_len]; omega) (by rw [toL_len]; omega)) f r h; unfold parIV at cw; simp only [envOf] at cw; rw [toL_len] at cw; clear h; obtain ⟨⟨l, x, ee⟩, hq⟩ : ∃ q, scanF (toL s) = q := ⟨_, rfl⟩
 rw [hq] at cs he cw; dsimp only at cs he cw; subst he; clear hq; obtain ⟨res, hres⟩ : ∃ res, ARes.ret (.tup (resT r)) [] = res := ⟨_, rfl⟩
 rw [hres]; refine ACalls.enterD Tryz.func15 rfl rfl gkX Tryz.ntmps15 fun X W0 S0 p F hW0 hS0 hR hrcv hdfr => ?_
 refine AWg.seq ?_; apply Ar F; go_simp; refine AWg.seq ?_; apply Ar F; go_simp; refine ⟨_, cs, ?_⟩; go_simp; refine AWg.seq ?_; apply Ar F; go_simp; refine Af (by go_simp) ?_; apply As; go_simp; intro a W hRel0; obtain ⟨E, S, hRel⟩ := hRel0; have e2 := eval_ptr hRel (x := .tmp 2) (b := 2) (off := 0) rfl; have e3 := eval_ptr hRel (x := .tmp 3) (b := 3) (off := 0) rfl; have e4 := eval_ptr hRel (x := .tmp 4) (b := 4) (off := 0) rfl; refine wp_seq ?_; refine wp_region ?_; rw [show List.range _ = [0, 1] from rfl]; have h18 : 18 < X.N := Nat.lt_of_lt_of_le (by decide) F.n; have e18 : ∀ (v : Value) (d : List Deferred), ({ tmps := a.tmps.setIfInBounds 18 v, defers := d } : Act).eval (.tmp 18) = v := fun v d => by
  simp [Act.eval, Array.getD, hRel.sz, h18]
 simp [wpOps, Region.wanted, Oper.wp, execOp, Oper.upon, e2, e3, e4, Instr.makeFunc, resolve, Act.put, e18, Deferred.ofValue]; refine Or.inl ?_; refine Or.inl ?_; have hX0 : a.defers = [] := hRel.df.trans hdfr; rw [hX0]; obtain ⟨fnv, hfnv⟩ : ∃ v, Value.func (Fn.func 24) #[] #[Value.pointer (some ⟨E.box 2, 0, none⟩), Value.pointer (some ⟨E.box 3, 0, none⟩), Value.pointer (some ⟨E.box 4, 0, none⟩)] = v := ⟨_, rfl⟩
 rw [hfnv]; have r1 := (hRel.put 18 h18 (c := .junk) (u := fnv) trivial).with [⟨.fn (.func 24) #[Value.pointer (some ⟨E.box 2, 0, none⟩), Value.pointer (some ⟨E.box 3, 0, none⟩), Value.pointer (some ⟨E.box 4, 0, none⟩)], #[]⟩]; have r2 := ((r1.pin 8 2 ⟨_, rfl⟩).pin 9 3 ⟨_, rfl⟩).pin 7 4 ⟨_, rfl⟩; clear r1; obtain ⟨p2, hp2⟩ : ∃ p2, E.box 2 = p2 := ⟨_, rfl⟩
 obtain ⟨p3, hp3⟩ : ∃ p3, E.box 3 = p3 := ⟨_, rfl⟩
 obtain ⟨p4, hp4⟩ : ∃ p4, E.box 4 = p4 := ⟨_, rfl⟩
 rw [hp2, hp3, hp4] at r2 ⊢; clear e2 e3 e4 e18 hRel hp2 hp3 hp4; have hXX : (X.with [⟨.fn (.func 24) #[Value.pointer (some ⟨p2, 0, none⟩), Value.pointer (some ⟨p3, 0, none⟩), Value.pointer (some ⟨p4, 0, none⟩)], #[]⟩]).dfr = [⟨.fn (.func 24) #[Value.pointer (some ⟨p2, 0, none⟩), Value.pointer (some ⟨p3, 0, none⟩), Value.pointer (some ⟨p4, 0, none⟩)], #[]⟩] := rfl; have F2 : Fit (X.with [⟨.fn (.func 24) #[Value.pointer (some ⟨p2, 0, none⟩), Value.pointer (some ⟨p3, 0, none⟩), Value.pointer (some ⟨p4, 0, none⟩)], #[]⟩]) GX 31 := ⟨F.g, F.n⟩; obtain ⟨Y, hY⟩ : ∃ Y, X.with [⟨.fn (.func 24) #[Value.pointer (some ⟨p2, 0, none⟩), Value.pointer (some ⟨p3, 0, none⟩), Value.pointer (some ⟨p4, 0, none⟩)], #[]⟩] = Y := ⟨_, rfl⟩
 have hYW : Y.W0 = W0 := by rw [← hY]; exact hW0
 have hYS : Y.S0 = S0 := by rw [← hY]; exact hS0
 have hYR : Y.R = fun k => (none : Option (List IV)).isSome = true ∧ k = Y.p := by
  rw [← hY]; show X.R = _; rw [hR]; funext k; simp
 have hYr : Y.rcv = false := by rw [← hY]; exact hrcv
 rw [hY] at r2 F2 hXX; clear hY hW0 hS0 hR hrcv hdfr F h18 hfnv hX0; refine wp_mono (AW.at (Q := ParEnd p2 p3 p4 res) ?hA r2) ?post
 case hA =>
  clear r2 hXX hYW hYS hYR hYr; have F := F2; apply Ar F; go_simp; apply Ar F; go_simp; refine ⟨_, cw, ?_⟩; cases r with
  | bad a1 e1 =>
   subst hres; go_simp; exact ⟨⟨a1, rfl⟩, e1, rfl⟩
  | ok n1 j1 =>
   have csh := syn_shallow gkX 48 (by decide) n1; obtain ⟨bs, hbs⟩ : ∃ bs, shJ 48 n1 = bs := ⟨_, rfl⟩
   rw [hbs] at csh; simp only [resT, hbs] at hres; clear hbs; obtain ⟨k1, t1, m1, q1, l1, b1⟩ := n1; go_simp; apply Ar F; go_simp; refine ⟨_, csh, ?_⟩; go_simp; cases bs with
   | false =>
    simp only [Bool.false_eq_true, if_false] at hres; subst hres; (repeat apply Aq); refine At (by go_simp) ?_; apply Ar F; go_simp; apply Au; go_simp
   | true =>
    simp only [if_true] at hres; subst hres; (repeat apply Aq); refine Af (by go_simp) ?_; apply As; go_simp; apply Ar F; go_simp; apply Au; go_simp
 case post =>
  intro e a' W' hq; have fin : ∀ {w' : World} {s' : ASt} {E' : AEnv} {S' : CS}, RelE Y E' S' s' a' w' → (∃ l rc, resL Tryz.prog s' Tryz.f15.results.toList = some l ∧ rcOf s' = some rc ∧ res = .ret (oneV l).er rc) → ∃ v, (results Tryz.f15 a'.tmps).run Tryz.prog w' = .ok v w' ∧ res.post W0 S0 p none (.returned v) w' := by
   rintro w' s' E' S' hR' ⟨l', rc', h1, h2, h3⟩; obtain ⟨u, hu1, hu2⟩ := results_rep hR' h1; obtain ⟨q1, q2, q3⟩ := end_post (rc := none) hYW hYS hYR rfl hR' h2 hYr (fun h => by cases h); refine ⟨u, hu1, ?_⟩; rw [h3]; exact ⟨⟨u, rfl, q1 _ _ hu2⟩, fun h => (by cases h), q3.os, q3.tape, q3.output, q3.size, fun k hk _ => q3.block k hk (fun h => by cases h.1)⟩
  have inv : ∀ w' : World, (invoke (.fn (.func 24) #[Value.pointer (some ⟨p2, 0, none⟩), Value.pointer (some ⟨p3, 0, none⟩), Value.pointer (some ⟨p4, 0, none⟩)]) #[]).run Tryz.prog w' = .ok (.enter 24 #[Value.pointer (some ⟨p2, 0, none⟩), Value.pointer (some ⟨p3, 0, none⟩), Value.pointer (some ⟨p4, 0, none⟩)]) w' := fun w' => by
   have h1 : Tryz.prog.funcs[(24 : Nat)]? = some Tryz.f24 := Tryz.func24; have h2 : ¬ Tryz.f24.body = none := by intro h; cases h
   have h3 : ¬ Tryz.f24.name = "runtime.NumGoroutine" := by decide
   simp [invoke, callFunc, h1, h2, h3]
  have idle : ∀ {s' : ASt} {E' : AEnv} {S' : CS}, RelE Y E' S' s' a' W' → (∃ l rc, resL Tryz.prog s' Tryz.f15.results.toList = some l ∧ rcOf s' = some rc ∧ res = .ret (oneV l).er rc) → Leaves Tryz.prog Tryz.f15 a'.tmps (fun e w' => res.post W0 S0 p none e w') a'.defers .returning W' := by
   intro s' E' S' hR' hA; rw [hR'.df, hXX]; refine ⟨fun h => (by cases h), _, _, _, _, rfl, inv W', (rec_idle _ _ _ W').mono fun e u' w' hh => ?_⟩; obtain ⟨rfl, rfl, rfl⟩ := hh; exact fin hR' hA
  cases e with
  | normal => obtain ⟨s', ⟨E', S', hR'⟩, hA⟩ := hq; exact idle hR' hA
  | ret => obtain ⟨s', ⟨E', S', hR'⟩, hA⟩ := hq; exact idle hR' hA
  | panic ch =>
   obtain ⟨s', x, rfl, ⟨E', S', hR'⟩, a0, e0, u0, u1, u2, u3, u4, u5, v, w, rfl, g8, g9, g7, f2, f3, f4, k2, k3, k4, hres2⟩ := hq; have q2 : E'.box 2 = p2 := by have := hR'.fr 8; rw [g8] at this; exact this.2
   have q3 : E'.box 3 = p3 := by have := hR'.fr 9; rw [g9] at this; exact this.2
   have q4 : E'.box 4 = p4 := by have := hR'.fr 7; rw [g7] at this; exact this.2
   have hc := rec_panic hR' hYr u0 u1 u2 u3 u4 u5 v w k2 k3 k4 f2 f3 f4 a0 e0 []; rw [q2, q3, q4] at hc; show Leaves Tryz.prog Tryz.f15 a'.tmps (fun e w' => res.post W0 S0 p none e w') a'.defers (.panicking [{ v := faultV a0 e0, recovered := false }]) W'
   rw [hR'.df, hXX]; refine ⟨fun h => (by cases h), _, _, _, _, rfl, inv W', hc.mono fun e u' w' hh => ?_⟩; obtain ⟨rfl, rfl, E2, S2, hR2⟩ := hh; exact fin hR2 ⟨[.agg zeroM, iI a0, iI e0], [], by clear hc hR2 hR' r2 fin idle; go_simp, rfl, hres2.trans (by clear hc hR2 hR' r2 fin idle hres2; go_simp)⟩
  | exit id => obtain ⟨_, _, hA⟩ := hq; exact hA.elim
  | goto l => obtain ⟨_, _, hA⟩ := hq; exact hA.elim
  | outgrown => exact hq.elim
end Go.Proofs.YtakncilicoefdaaGreatDoor
