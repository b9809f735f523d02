/- Lemmas and contracts for the laws SpellSames, part 41 of 47: SpR. Conditions: those that each lemma names. -/
import Derived.Test.YtakncilicoefdaaGreatDoorPa39
set_option maxRecDepth 100000
set_option maxHeartbeats 16000000
namespace Go.Proofs.YtakncilicoefdaaGreatDoor
open Go Go.RowKit Go.Proofs Th
set_option maxRecDepth 8000
attribute [local go_sem] aops aopsD stepA chkD disj aguard isWant aop aval abuil acall acallP acallR argsIV valOf aput startS mkS numb look upd toIV allIV zeroFV aload setSeg afill aelems cellsOf toSl toVal valsOf aidx abin ainR FV.ok IV.one IV.er IV.erA IV.er1 iI sI bI nodeIV nodesIV tokIV parIV faultV resP lift AThen ABlock AEnd resL resV rload rcOf imsOf oneV nodeJ kidsJ strJ knownJ selfJ noNJ noTf foot owns pruneS filtF filtO Value.oneCell'
attribute [local go_sem] ti_node ti_tok ti_par ti_fault ti_nodes ti_toks ti_strs ti_ints ti_str ti_int ti_num ti_errno
attribute [local go_sem] sel
attribute [local go_sem] zeroN nodesIV_append nodesIV_len kidC rowC nodeF
attribute [local go_sem] nodesIV_getE List.map_append List.map_cons List.map_nil List.length_map
variable {G : World → CS → Prop}
theorem r_SameG (gk : GK G) : ∀ (n : Nat) (x : NJ), depJ x ≤ n → ∀ y : NJ, ACalls Tryz.prog G 14 none [.agg (nodeIV x), .agg (nodeIV y)] (.ret (bI (sameJ x y)) []) := by
  intro n; induction n with
  | zero => intro x h; obtain ⟨k1, t1, m1, q1, l1, b1⟩ := x; simp only [depJ] at h; omega
  | succ n ih =>
    intro x hx y; obtain ⟨k1, t1, m1, q1, l1, b1⟩ := x; obtain ⟨k2, t2, m2, q2, l2, b2⟩ := y; rw [depJ] at hx; have heq := eqTy_num; by_cases hlen : l1.length ≤ 140737488351232
    case neg => exact ⟨⟨_, Tryz.func14, rfl, rfl⟩, fun W S p us hG hSb hrc hrep => absurd (by have := agg_room (i := 4) hrep rfl; rwa [nodesIV_len] at this) hlen⟩
    by_cases hlen2 : b1.length ≤ 140737488351232
    case neg => exact ⟨⟨_, Tryz.func14, rfl, rfl⟩, fun W S p us hG hSb hrc hrep => absurd (by have := agg_room (i := 5) hrep rfl; rwa [List.length_map] at this) hlen2⟩
    obtain ⟨z, hz⟩ : ∃ z, sameJ (.mk k1 t1 m1 q1 l1 b1) (.mk k2 t2 m2 q2 l2 b2) = z := ⟨_, rfl⟩
    rw [hz]; rw [sameJ] at hz; by_cases h1 : k1 = k2
    case neg =>
      have hz2 : z = false := by rw [← hz]; simp [h1]
      subst hz2; refine ACalls.enter Tryz.func14 rfl rfl gk Tryz.ntmps14 fun X F => ?_
      repeat' first
        | refine AW.seq ?_
        | refine AW.block ?_
        | (refine AW.regL F [0, 1, 2, 3, 4, 5, 6] [7, 8, 9, 10, 11, 12, 13, 14, 15, 16, 17, 18, 19, 20, 21, 22, 23, 24, 25, 26, 27, 28, 29, 30, 31, 32, 33, 34, 35, 36] (by rfl) ?_; go_simp)
        | (refine laterL_I [7, 8, 9, 10, 11, 12, 13] [14, 15, 16, 17, 18, 19, 20, 21, 22, 23, 24, 25, 26, 27, 28, 29, 30, 31, 32, 33, 34, 35, 36] ?_; go_simp)
        | (refine laterL_I [14, 15, 16, 17, 18, 19, 20] [21, 22, 23, 24, 25, 26, 27, 28, 29, 30, 31, 32, 33, 34, 35, 36] ?_; go_simp)
        | (refine laterL_I [21, 22, 23, 24, 25, 26, 27] [28, 29, 30, 31, 32, 33, 34, 35, 36] ?_; go_simp)
        | (refine laterL_I [28, 29, 30, 31, 32, 33, 34] [35, 36] ?_; go_simp)
        | (refine laterL_E ?_; go_simp)
        | (refine AW.reg F ?_; go_simp)
        | (refine AW.condX ?_; go_simp)
        | (refine AW.skip ?_; go_simp)
        | (refine AW.exit ?_; go_simp)
        | (refine AW.ret ?_; go_simp)
        | refine ⟨fun h => ?_, fun h => ?_⟩
        | intro h
    by_cases h2 : t1 = t2
    case neg =>
      have hz2 : z = false := by rw [← hz]; simp [h2]
      subst hz2; refine ACalls.enter Tryz.func14 rfl rfl gk Tryz.ntmps14 fun X F => ?_
      repeat' first
        | refine AW.seq ?_
        | refine AW.block ?_
        | (refine AW.regL F [0, 1, 2, 3, 4, 5, 6] [7, 8, 9, 10, 11, 12, 13, 14, 15, 16, 17, 18, 19, 20, 21, 22, 23, 24, 25, 26, 27, 28, 29, 30, 31, 32, 33, 34, 35, 36] (by rfl) ?_; go_simp)
        | (refine laterL_I [7, 8, 9, 10, 11, 12, 13] [14, 15, 16, 17, 18, 19, 20, 21, 22, 23, 24, 25, 26, 27, 28, 29, 30, 31, 32, 33, 34, 35, 36] ?_; go_simp)
        | (refine laterL_I [14, 15, 16, 17, 18, 19, 20] [21, 22, 23, 24, 25, 26, 27, 28, 29, 30, 31, 32, 33, 34, 35, 36] ?_; go_simp)
        | (refine laterL_I [21, 22, 23, 24, 25, 26, 27] [28, 29, 30, 31, 32, 33, 34, 35, 36] ?_; go_simp)
        | (refine laterL_I [28, 29, 30, 31, 32, 33, 34] [35, 36] ?_; go_simp)
        | (refine laterL_E ?_; go_simp)
        | (refine AW.reg F ?_; go_simp)
        | (refine AW.condX ?_; go_simp)
        | (refine AW.skip ?_; go_simp)
        | (refine AW.exit ?_; go_simp)
        | (refine AW.ret ?_; go_simp)
        | refine ⟨fun h => ?_, fun h => ?_⟩
        | intro h
    by_cases h3 : m1 = m2
    case neg =>
      have hz2 : z = false := by rw [← hz]; simp [h3]
      subst hz2; refine ACalls.enter Tryz.func14 rfl rfl gk Tryz.ntmps14 fun X F => ?_
      repeat' first
        | refine AW.seq ?_
        | refine AW.block ?_
        | (refine AW.regL F [0, 1, 2, 3, 4, 5, 6] [7, 8, 9, 10, 11, 12, 13, 14, 15, 16, 17, 18, 19, 20, 21, 22, 23, 24, 25, 26, 27, 28, 29, 30, 31, 32, 33, 34, 35, 36] (by rfl) ?_; go_simp)
        | (refine laterL_I [7, 8, 9, 10, 11, 12, 13] [14, 15, 16, 17, 18, 19, 20, 21, 22, 23, 24, 25, 26, 27, 28, 29, 30, 31, 32, 33, 34, 35, 36] ?_; go_simp)
        | (refine laterL_I [14, 15, 16, 17, 18, 19, 20] [21, 22, 23, 24, 25, 26, 27, 28, 29, 30, 31, 32, 33, 34, 35, 36] ?_; go_simp)
        | (refine laterL_I [21, 22, 23, 24, 25, 26, 27] [28, 29, 30, 31, 32, 33, 34, 35, 36] ?_; go_simp)
        | (refine laterL_I [28, 29, 30, 31, 32, 33, 34] [35, 36] ?_; go_simp)
        | (refine laterL_E ?_; go_simp)
        | (refine AW.reg F ?_; go_simp)
        | (refine AW.condX ?_; go_simp)
        | (refine AW.skip ?_; go_simp)
        | (refine AW.exit ?_; go_simp)
        | (refine AW.ret ?_; go_simp)
        | refine ⟨fun h => ?_, fun h => ?_⟩
        | intro h
    by_cases h4 : q1 = q2
    case neg =>
      have hz2 : z = false := by rw [← hz]; simp [h4]
      subst hz2; refine ACalls.enter Tryz.func14 rfl rfl gk Tryz.ntmps14 fun X F => ?_
      repeat' first
        | refine AW.seq ?_
        | refine AW.block ?_
        | (refine AW.regL F [0, 1, 2, 3, 4, 5, 6] [7, 8, 9, 10, 11, 12, 13, 14, 15, 16, 17, 18, 19, 20, 21, 22, 23, 24, 25, 26, 27, 28, 29, 30, 31, 32, 33, 34, 35, 36] (by rfl) ?_; go_simp)
        | (refine laterL_I [7, 8, 9, 10, 11, 12, 13] [14, 15, 16, 17, 18, 19, 20, 21, 22, 23, 24, 25, 26, 27, 28, 29, 30, 31, 32, 33, 34, 35, 36] ?_; go_simp)
        | (refine laterL_I [14, 15, 16, 17, 18, 19, 20] [21, 22, 23, 24, 25, 26, 27, 28, 29, 30, 31, 32, 33, 34, 35, 36] ?_; go_simp)
        | (refine laterL_I [21, 22, 23, 24, 25, 26, 27] [28, 29, 30, 31, 32, 33, 34, 35, 36] ?_; go_simp)
        | (refine laterL_I [28, 29, 30, 31, 32, 33, 34] [35, 36] ?_; go_simp)
        | (refine laterL_E ?_; go_simp)
        | (refine AW.reg F ?_; go_simp)
        | (refine AW.condX ?_; go_simp)
        | (refine AW.skip ?_; go_simp)
        | (refine AW.exit ?_; go_simp)
        | (refine AW.ret ?_; go_simp)
        | refine ⟨fun h => ?_, fun h => ?_⟩
        | intro h
    subst h1 h2 h3 h4; by_cases h5 : l1.length = l2.length
    case neg =>
      have h5I : ¬ (l1.length : Int) = (l2.length : Int) := by omega
      have hz2 : z = false := by rw [← hz, sameL_len h5]; simp
      subst hz2; refine ACalls.enter Tryz.func14 rfl rfl gk Tryz.ntmps14 fun X F => ?_
      repeat' first
        | refine AW.seq ?_
        | refine AW.block ?_
        | (refine AW.regL F [0, 1, 2, 3, 4, 5, 6] [7, 8, 9, 10, 11, 12, 13, 14, 15, 16, 17, 18, 19, 20, 21, 22, 23, 24, 25, 26, 27, 28, 29, 30, 31, 32, 33, 34, 35, 36] (by rfl) ?_; go_simp)
        | (refine laterL_I [7, 8, 9, 10, 11, 12, 13] [14, 15, 16, 17, 18, 19, 20, 21, 22, 23, 24, 25, 26, 27, 28, 29, 30, 31, 32, 33, 34, 35, 36] ?_; go_simp)
        | (refine laterL_I [14, 15, 16, 17, 18, 19, 20] [21, 22, 23, 24, 25, 26, 27, 28, 29, 30, 31, 32, 33, 34, 35, 36] ?_; go_simp)
        | (refine laterL_I [21, 22, 23, 24, 25, 26, 27] [28, 29, 30, 31, 32, 33, 34, 35, 36] ?_; go_simp)
        | (refine laterL_I [28, 29, 30, 31, 32, 33, 34] [35, 36] ?_; go_simp)
        | (refine laterL_E ?_; go_simp)
        | (refine AW.reg F ?_; go_simp)
        | (refine AW.condX ?_; go_simp)
        | (refine AW.skip ?_; go_simp)
        | (refine AW.exit ?_; go_simp)
        | (refine AW.ret ?_; go_simp)
        | refine ⟨fun h => ?_, fun h => ?_⟩
        | intro h
    have h5I : (l2.length : Int) = (l1.length : Int) := by omega
    by_cases h6 : b1.length = b2.length
    case neg =>
      have h6I : ¬ (b1.length : Int) = (b2.length : Int) := by omega
      have hne : ¬ b1 = b2 := fun e => h6 (by rw [e])
      have hz2 : z = false := by rw [← hz]; simp [hne]
      subst hz2; refine ACalls.enter Tryz.func14 rfl rfl gk Tryz.ntmps14 fun X F => ?_
      repeat' first
        | refine AW.seq ?_
        | refine AW.block ?_
        | (refine AW.regL F [0, 1, 2, 3, 4, 5, 6] [7, 8, 9, 10, 11, 12, 13, 14, 15, 16, 17, 18, 19, 20, 21, 22, 23, 24, 25, 26, 27, 28, 29, 30, 31, 32, 33, 34, 35, 36] (by rfl) ?_; go_simp)
        | (refine laterL_I [7, 8, 9, 10, 11, 12, 13] [14, 15, 16, 17, 18, 19, 20, 21, 22, 23, 24, 25, 26, 27, 28, 29, 30, 31, 32, 33, 34, 35, 36] ?_; go_simp)
        | (refine laterL_I [14, 15, 16, 17, 18, 19, 20] [21, 22, 23, 24, 25, 26, 27, 28, 29, 30, 31, 32, 33, 34, 35, 36] ?_; go_simp)
        | (refine laterL_I [21, 22, 23, 24, 25, 26, 27] [28, 29, 30, 31, 32, 33, 34, 35, 36] ?_; go_simp)
        | (refine laterL_I [28, 29, 30, 31, 32, 33, 34] [35, 36] ?_; go_simp)
        | (refine laterL_E ?_; go_simp)
        | (refine AW.reg F ?_; go_simp)
        | (refine AW.condX ?_; go_simp)
        | (refine AW.skip ?_; go_simp)
        | (refine AW.exit ?_; go_simp)
        | (refine AW.ret ?_; go_simp)
        | refine ⟨fun h => ?_, fun h => ?_⟩
        | intro h
    have h6I : (b2.length : Int) = (b1.length : Int) := by omega
    refine ACalls.enter Tryz.func14 rfl rfl gk Tryz.ntmps14 fun X F => ?_
    apply Ar F; go_simp; (repeat apply Aq); refine AW.regL F [0, 1, 2, 3, 4, 5, 6] [7, 8, 9, 10, 11, 12, 13, 14, 15, 16, 17, 18, 19, 20, 21, 22, 23, 24, 25, 26, 27, 28, 29, 30, 31, 32, 33, 34, 35, 36] (by rfl) ?_; go_simp; refine laterL_I [7, 8, 9, 10, 11, 12, 13] [14, 15, 16, 17, 18, 19, 20, 21, 22, 23, 24, 25, 26, 27, 28, 29, 30, 31, 32, 33, 34, 35, 36] ?_; go_simp; refine laterL_I [14, 15, 16, 17, 18, 19, 20] [21, 22, 23, 24, 25, 26, 27, 28, 29, 30, 31, 32, 33, 34, 35, 36] ?_; go_simp; refine laterL_I [21, 22, 23, 24, 25, 26, 27] [28, 29, 30, 31, 32, 33, 34, 35, 36] ?_; go_simp; refine laterL_I [28, 29, 30, 31, 32, 33, 34] [35, 36] ?_; go_simp; refine laterL_E ?_; go_simp; (repeat apply Aq); refine Af (by go_simp) ?_; apply As; go_simp; apply Ar F; go_simp; (repeat apply Aq); apply Ab; (repeat apply Aq); refine AW.loopP [2, 3, 5] [1000, 2, 3] (by decide) (fun g t => ∃ k : Nat, t = mkS [(2, .ptr 2 0), (3, .ptr 3 0), (5, .im (iI k))] [(1000, .none), (2, .box ((nodeIV (.mk k1 t1 m1 q1 l1 b1)).map .im)), (3, .box ((nodeIV (.mk k1 t1 m1 q1 l2 b2)).map .im))] ∧ g = b1.length - k ∧ k ≤ b1.length ∧ Hd (b1.drop k = b2.drop k ↔ b1 = b2)) (b1.length) ?_ ?_
    · refine ⟨0, ?_, by omega, by omega, ⟨by simp⟩⟩
      go_simp
    rintro g t ⟨k, rfl, rfl, hk, hg⟩; by_cases hkt : k < b1.length
    · have hkI : (k : Int) < (b1.length : Int) := by omega
      have hrk := rng ((k : Int) + 1) (by omega); have hkt2 : k < b2.length := by omega
      have hg := hg.out; rw [List.drop_eq_getElem_cons hkt, List.drop_eq_getElem_cons hkt2, List.cons_eq_cons] at hg; apply Ar F; go_simp; (repeat apply Aq); refine At (by go_simp) ?_; apply As; go_simp; (repeat apply Aq); apply Ab; by_cases he : b1[k] = b2[k]
      · (repeat apply Aq)
        refine Ad F [0, 1, 2, 3, 4, 5, 6, 7, 8, 9, 10] [] mixed (by kernel_rfl) ?_; go_simp; (repeat apply Aq); refine Af (by go_simp) ?_; apply As; go_simp; apply Ar F; go_simp; refine ⟨b1.length - (k + 1), by omega, k + 1, ?_, by omega, by omega, ⟨⟨fun h => hg.1 ⟨he, h⟩, fun h => (hg.2 h).2⟩⟩⟩; go_simp
      have hne : ¬ b1 = b2 := fun e => he (hg.2 e).1
      have hz2 : z = false := by rw [← hz]; simp [hne]
      subst hz2; (repeat apply Aq); refine Ad F [0, 1, 2, 3, 4, 5, 6, 7, 8, 9, 10] [] mixed (by kernel_rfl) ?_; go_simp; (repeat apply Aq); refine At (by go_simp) ?_; apply Ar F; go_simp; apply Au; go_simp
    have hkI : ¬ (k : Int) < (b1.length : Int) := by omega
    have hba : b1 = b2 := hg.out.1 (by rw [List.drop_eq_nil_of_le (by omega), List.drop_eq_nil_of_le (by omega)]); obtain ⟨el, hel⟩ : ∃ el, sameL l1 l2 = el := ⟨_, rfl⟩
    rw [hel] at hz; clear hg; apply Ar F; go_simp; (repeat apply Aq); refine Af (by go_simp) ?_; apply Ae; go_simp; apply Ar F; go_simp; (repeat apply Aq); apply Ab; (repeat apply Aq); refine AW.loopP [2, 3, 6] [1000, 2, 3] (by decide) (fun g t => ∃ k : Nat, t = mkS [(2, .ptr 2 0), (3, .ptr 3 0), (6, .im (iI k))] [(1000, .none), (2, .box ((nodeIV (.mk k1 t1 m1 q1 l1 b1)).map .im)), (3, .box ((nodeIV (.mk k1 t1 m1 q1 l2 b2)).map .im))] ∧ g = l1.length - k ∧ k ≤ l1.length ∧ sameL (l1.drop k) (l2.drop k) = el) (l1.length) ?_ ?_
    · refine ⟨0, ?_, by omega, by omega, hel⟩
      go_simp
    rintro g t ⟨k, rfl, rfl, hk, hg⟩; by_cases hkt : k < l1.length
    · have hkI : (k : Int) < (l1.length : Int) := by omega
      have hrk := rng ((k : Int) + 1) (by omega); have hkt2 : k < l2.length := by omega
      have cs := ih l1[k] (deps_le2.1 (by omega) l1[k] (List.getElem_mem hkt)) l2[k]; rw [List.drop_eq_getElem_cons hkt, List.drop_eq_getElem_cons hkt2, sameL] at hg; generalize sameJ l1[k] l2[k] = sv at cs hg; obtain ⟨⟨k5, t5, m5, q5, l5, b5⟩, hx5⟩ : ∃ x, l1[k] = x := ⟨_, rfl⟩
      obtain ⟨⟨k6, t6, m6, q6, l6, b6⟩, hy5⟩ : ∃ x, l2[k] = x := ⟨_, rfl⟩
      rw [hx5, hy5] at cs; apply Ar F; go_simp; (repeat apply Aq); refine At (by go_simp) ?_; apply As; go_simp; (repeat apply Aq); apply Ab; cases sv
      · (repeat apply Aq)
        refine Ad F [0, 1, 2, 3, 4, 5, 6, 7, 8, 9, 10, 11] [] mixed (by kernel_rfl) ?_; go_simp; refine ⟨_, cs, ?_⟩; go_simp; rw [Bool.false_and] at hg; subst hg; have hz2 : z = false := by rw [← hz]; simp
        subst hz2; (repeat apply Aq); refine At (by go_simp) ?_; apply Ar F; go_simp; apply Au; go_simp
      (repeat apply Aq); refine Ad F [0, 1, 2, 3, 4, 5, 6, 7, 8, 9, 10, 11] [] mixed (by kernel_rfl) ?_; go_simp; refine ⟨_, cs, ?_⟩; go_simp; rw [Bool.true_and] at hg; (repeat apply Aq); refine Af (by go_simp) ?_; apply As; go_simp; apply Ar F; go_simp; refine ⟨l1.length - (k + 1), by omega, k + 1, ?_, by omega, by omega, hg⟩; go_simp
    have hkI : ¬ (k : Int) < (l1.length : Int) := by omega
    rw [List.drop_eq_nil_of_le (by omega), List.drop_eq_nil_of_le (by omega), sameL] at hg; subst hg; have hz2 : z = true := by rw [← hz]; simp [hba]
    subst hz2; apply Ar F; go_simp; (repeat apply Aq); refine Af (by go_simp) ?_; apply Ae; go_simp; apply Ar F; go_simp; apply Au; go_simp
end Go.Proofs.YtakncilicoefdaaGreatDoor
