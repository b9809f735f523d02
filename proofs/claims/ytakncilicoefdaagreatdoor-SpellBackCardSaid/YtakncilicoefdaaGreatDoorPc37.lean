/- Lemmas and contracts. Conditions: those that each lemma names. -/
import Derived.Test.YtakncilicoefdaaGreatDoorPc34
set_option maxRecDepth 100000
set_option maxHeartbeats 8000000
namespace Go.Proofs.YtakncilicoefdaaGreatDoor
open Go Go.RowKit Go.Proofs Th
set_option maxRecDepth 8000
attribute [local go_sem] aops aopsD stepA chkD disj aguard isWant aop aval abuil acall acallP acallR argsIV valOf aput startS mkS numb look upd toIV allIV zeroFV aload setSeg afill aelems cellsOf toSl toVal valsOf aidx abin ainR FV.ok IV.one IV.er IV.erA IV.er1 iI sI bI nodeIV nodesIV tokIV parIV faultV resP lift AThen ABlock AEnd resL resV rload rcOf imsOf oneV nodeJ kidsJ strJ knownJ selfJ noNJ noTf foot owns pruneS filtF filtO Value.oneCell'
attribute [local go_sem] ti_node ti_tok ti_par ti_fault ti_nodes ti_toks ti_strs ti_ints ti_str ti_int ti_num ti_errno
attribute [local go_sem] sel
attribute [local go_sem] zeroN nodesIV_append nodesIV_len kidC rowC nodeF
attribute [local go_sem] nodesIV_getE List.map_append List.map_cons List.map_nil List.length_map
variable {G : World → CS → Prop}
theorem sameL_len : ∀ {a b : List NJ}, a.length ≠ b.length → sameL a b = false
 | [], [], h => absurd rfl h
 | [], _ :: _, _ => by simp [sameL]
 | _ :: _, [], _ => by simp [sameL]
 | x :: a, y :: b, h => by
  rw [sameL, sameL_len (fun e => h (by simp [e])), Bool.and_false]
theorem sp_equalF (gk : GK G) (a b : List NJ) (IH : ∀ x ∈ a, ∀ y, ACalls Tryz.prog G 13 none [.agg (nodeIV x), .agg (nodeIV y)] (.ret (bI (sameJ x y)) [])) : ACalls Tryz.prog G 22 none [.sl (nodesIV a) false, .sl (nodesIV b) false, .v (.func (.func 13) #[] #[])] (.ret (bI (sameL a b)) []) := by
 by_cases hlen : a.length ≤ 140737488351232
 case neg => exact ⟨⟨_, Tryz.func22, rfl, rfl⟩, fun W S p us hG hSb hrc hrep => absurd (by have := sl_room hrep; rwa [nodesIV_len] at this) hlen⟩
 obtain ⟨z, hz⟩ : ∃ z, sameL a b = z := ⟨_, rfl⟩
 rw [hz]; by_cases hl : a.length = b.length
 case neg =>
  have hlI : ¬ (a.length : Int) = (b.length : Int) := by omega
  have hz2 : z = false := by rw [← hz]; exact sameL_len hl
  subst hz2; refine ACalls.enter Tryz.func22 rfl rfl gk Tryz.ntmps22 fun X F => ?_
  apply Ar F; go_simp; apply Ar F; go_simp; (repeat apply Aq); refine At (by go_simp) ?_; apply Ar F; go_simp; apply Au; go_simp
 have hlI : (b.length : Int) = (a.length : Int) := by omega
 refine ACalls.enter Tryz.func22 rfl rfl gk Tryz.ntmps22 fun X F => ?_
 apply Ar F; go_simp; apply Ar F; go_simp; (repeat apply Aq); refine Af (by go_simp) ?_; apply As; go_simp; apply Ar F; go_simp; (repeat apply Aq); apply Ab; (repeat apply Aq); refine AW.loopP [0, 1, 2, 15, 16, 17] [1000] (by decide) (fun g t => ∃ k : Nat, t = mkS [(0, .im (.sl (nodesIV a) false)), (1, .im (.sl (nodesIV b) false)), (2, .im (.v (.func (.func 13) #[] #[]))), (15, .im (.sl (nodesIV a) false)), (16, .im (iI a.length)), (17, .im (iI k))] [(1000, .none)] ∧ g = a.length - k ∧ k ≤ a.length ∧ sameL (a.drop k) (b.drop k) = z) (a.length) ?_ ?_
 ·refine ⟨0, ?_, by omega, by omega, hz⟩
  go_simp
 rintro g t ⟨k, rfl, rfl, hk, hg⟩; by_cases hkt : k < a.length
 ·have hkI : (k : Int) < (a.length : Int) := by omega
  have hrk := rng ((k : Int) + 1) (by omega); have hkt2 : k < b.length := by omega
  have hkI2 : (k : Int) < (b.length : Int) := by omega
  have cs := IH a[k] (List.getElem_mem hkt) b[k]; rw [List.drop_eq_getElem_cons hkt, List.drop_eq_getElem_cons hkt2, sameL] at hg; generalize sameJ a[k] b[k] = sv at cs hg; obtain ⟨⟨k5, t5, m5, q5, l5, b5⟩, hx⟩ : ∃ x, a[k] = x := ⟨_, rfl⟩
  obtain ⟨⟨k6, t6, m6, q6, l6, b6⟩, hy⟩ : ∃ x, b[k] = x := ⟨_, rfl⟩
  rw [hx, hy] at cs; apply Ar F; go_simp; (repeat apply Aq); refine At (by go_simp) ?_; apply As; go_simp; (repeat apply Aq); apply Ab; cases sv
  ·apply Ar F
   go_simp; apply Ar F; go_simp; apply Ar F; go_simp; refine ⟨_, cs, ?_⟩; go_simp; rw [Bool.false_and] at hg; subst hg; (repeat apply Aq); refine At (by go_simp) ?_; apply Ar F; go_simp; apply Au; go_simp
  apply Ar F; go_simp; apply Ar F; go_simp; apply Ar F; go_simp; refine ⟨_, cs, ?_⟩; go_simp; rw [Bool.true_and] at hg; (repeat apply Aq); refine Af (by go_simp) ?_; apply As; go_simp; apply Ar F; go_simp; refine ⟨a.length - (k + 1), by omega, k + 1, ?_, by omega, by omega, hg⟩; go_simp
 have hkI : ¬ (k : Int) < (a.length : Int) := by omega
 rw [List.drop_eq_nil_of_le (by omega), List.drop_eq_nil_of_le (by omega), sameL] at hg; subst hg; apply Ar F; go_simp; (repeat apply Aq); refine Af (by go_simp) ?_; apply Ae; go_simp; apply Ar F; go_simp; apply Au; go_simp
theorem sp_Same (gk : GK G) : ∀ (n : Nat) (x : NJ), depJ x ≤ n → ∀ y : NJ, ACalls Tryz.prog G 13 none [.agg (nodeIV x), .agg (nodeIV y)] (.ret (bI (sameJ x y)) []) := by
 intro n; induction n with
 | zero => intro x h; obtain ⟨k1, t1, m1, q1, l1, b1⟩ := x; simp only [depJ] at h; omega
 | succ n ih =>
  intro x hx y; obtain ⟨k1, t1, m1, q1, l1, b1⟩ := x; obtain ⟨k2, t2, m2, q2, l2, b2⟩ := y; rw [depJ] at hx; have heq := eqTy_num; have ce := sp_equal gk b1 b2; have cf := sp_equalF gk l1 l2 (fun x hx2 y => ih x (deps_le2.1 (by omega) x hx2) y); clear ih; obtain ⟨z, hz⟩ : ∃ z, sameJ (.mk k1 t1 m1 q1 l1 b1) (.mk k2 t2 m2 q2 l2 b2) = z := ⟨_, rfl⟩
  rw [hz]; rw [sameJ] at hz; generalize decide (b1 = b2) = eb at ce hz; generalize sameL l1 l2 = el at cf hz; by_cases h1 : k1 = k2
  case neg =>
   have hz2 : z = false := by rw [← hz]; simp [h1]
   subst hz2; refine ACalls.enter Tryz.func13 rfl rfl gk Tryz.ntmps13 fun X F => ?_
   repeat' first
    | refine AW.seq ?_
    | refine AW.block ?_
    | (refine AW.regL F [0, 1, 2, 3, 4, 5, 6] [7, 8, 9, 10, 11, 12, 13, 14, 15, 16, 17, 18, 19, 20, 21, 22, 23, 24, 25, 26, 27, 28, 29, 30, 31, 32] (by rfl) ?_; go_simp)
    | (refine laterL_I [7, 8, 9, 10, 11, 12, 13] [14, 15, 16, 17, 18, 19, 20, 21, 22, 23, 24, 25, 26, 27, 28, 29, 30, 31, 32] ?_; go_simp)
    | (refine laterL_I [14, 15, 16, 17, 18, 19, 20] [21, 22, 23, 24, 25, 26, 27, 28, 29, 30, 31, 32] ?_; go_simp)
    | (refine laterL_I [21, 22, 23, 24, 25, 26, 27] [28, 29, 30, 31, 32] ?_; go_simp)
    | (refine laterL_E ?_; go_simp)
    | (refine AW.reg F ?_; go_simp)
    | (refine AW.condX ?_; go_simp)
    | (refine AW.skip ?_; go_simp)
    | (refine AW.exit ?_; go_simp)
    | (refine AW.ret ?_; go_simp)
    | (refine ⟨_, ce, ?_⟩; go_simp)
    | (refine ⟨_, cf, ?_⟩; go_simp)
    | refine ⟨fun h => ?_, fun h => ?_⟩
    | intro h
  by_cases h2 : t1 = t2
  case neg =>
   have hz2 : z = false := by rw [← hz]; simp [h2]
   subst hz2; refine ACalls.enter Tryz.func13 rfl rfl gk Tryz.ntmps13 fun X F => ?_
   repeat' first
    | refine AW.seq ?_
    | refine AW.block ?_
    | (refine AW.regL F [0, 1, 2, 3, 4, 5, 6] [7, 8, 9, 10, 11, 12, 13, 14, 15, 16, 17, 18, 19, 20, 21, 22, 23, 24, 25, 26, 27, 28, 29, 30, 31, 32] (by rfl) ?_; go_simp)
    | (refine laterL_I [7, 8, 9, 10, 11, 12, 13] [14, 15, 16, 17, 18, 19, 20, 21, 22, 23, 24, 25, 26, 27, 28, 29, 30, 31, 32] ?_; go_simp)
    | (refine laterL_I [14, 15, 16, 17, 18, 19, 20] [21, 22, 23, 24, 25, 26, 27, 28, 29, 30, 31, 32] ?_; go_simp)
    | (refine laterL_I [21, 22, 23, 24, 25, 26, 27] [28, 29, 30, 31, 32] ?_; go_simp)
    | (refine laterL_E ?_; go_simp)
    | (refine AW.reg F ?_; go_simp)
    | (refine AW.condX ?_; go_simp)
    | (refine AW.skip ?_; go_simp)
    | (refine AW.exit ?_; go_simp)
    | (refine AW.ret ?_; go_simp)
    | (refine ⟨_, ce, ?_⟩; go_simp)
    | (refine ⟨_, cf, ?_⟩; go_simp)
    | refine ⟨fun h => ?_, fun h => ?_⟩
    | intro h
  by_cases h3 : m1 = m2
  case neg =>
   have hz2 : z = false := by rw [← hz]; simp [h3]
   subst hz2; refine ACalls.enter Tryz.func13 rfl rfl gk Tryz.ntmps13 fun X F => ?_
   repeat' first
    | refine AW.seq ?_
    | refine AW.block ?_
    | (refine AW.regL F [0, 1, 2, 3, 4, 5, 6] [7, 8, 9, 10, 11, 12, 13, 14, 15, 16, 17, 18, 19, 20, 21, 22, 23, 24, 25, 26, 27, 28, 29, 30, 31, 32] (by rfl) ?_; go_simp)
    | (refine laterL_I [7, 8, 9, 10, 11, 12, 13] [14, 15, 16, 17, 18, 19, 20, 21, 22, 23, 24, 25, 26, 27, 28, 29, 30, 31, 32] ?_; go_simp)
    | (refine laterL_I [14, 15, 16, 17, 18, 19, 20] [21, 22, 23, 24, 25, 26, 27, 28, 29, 30, 31, 32] ?_; go_simp)
    | (refine laterL_I [21, 22, 23, 24, 25, 26, 27] [28, 29, 30, 31, 32] ?_; go_simp)
    | (refine laterL_E ?_; go_simp)
    | (refine AW.reg F ?_; go_simp)
    | (refine AW.condX ?_; go_simp)
    | (refine AW.skip ?_; go_simp)
    | (refine AW.exit ?_; go_simp)
    | (refine AW.ret ?_; go_simp)
    | (refine ⟨_, ce, ?_⟩; go_simp)
    | (refine ⟨_, cf, ?_⟩; go_simp)
    | refine ⟨fun h => ?_, fun h => ?_⟩
    | intro h
  by_cases h4 : q1 = q2
  case neg =>
   have hz2 : z = false := by rw [← hz]; simp [h4]
   subst hz2; refine ACalls.enter Tryz.func13 rfl rfl gk Tryz.ntmps13 fun X F => ?_
   repeat' first
    | refine AW.seq ?_
    | refine AW.block ?_
    | (refine AW.regL F [0, 1, 2, 3, 4, 5, 6] [7, 8, 9, 10, 11, 12, 13, 14, 15, 16, 17, 18, 19, 20, 21, 22, 23, 24, 25, 26, 27, 28, 29, 30, 31, 32] (by rfl) ?_; go_simp)
    | (refine laterL_I [7, 8, 9, 10, 11, 12, 13] [14, 15, 16, 17, 18, 19, 20, 21, 22, 23, 24, 25, 26, 27, 28, 29, 30, 31, 32] ?_; go_simp)
    | (refine laterL_I [14, 15, 16, 17, 18, 19, 20] [21, 22, 23, 24, 25, 26, 27, 28, 29, 30, 31, 32] ?_; go_simp)
    | (refine laterL_I [21, 22, 23, 24, 25, 26, 27] [28, 29, 30, 31, 32] ?_; go_simp)
    | (refine laterL_E ?_; go_simp)
    | (refine AW.reg F ?_; go_simp)
    | (refine AW.condX ?_; go_simp)
    | (refine AW.skip ?_; go_simp)
    | (refine AW.exit ?_; go_simp)
    | (refine AW.ret ?_; go_simp)
    | (refine ⟨_, ce, ?_⟩; go_simp)
    | (refine ⟨_, cf, ?_⟩; go_simp)
    | refine ⟨fun h => ?_, fun h => ?_⟩
    | intro h
  have hz2 : z = (eb && el) := by rw [← hz]; simp [h1, h2, h3, h4]
  subst h1 h2 h3 h4 hz2; cases eb
  all_goals
   refine ACalls.enter Tryz.func13 rfl rfl gk Tryz.ntmps13 fun X F => ?_
   repeat' first
    | refine AW.seq ?_
    | refine AW.block ?_
    | (refine AW.regL F [0, 1, 2, 3, 4, 5, 6] [7, 8, 9, 10, 11, 12, 13, 14, 15, 16, 17, 18, 19, 20, 21, 22, 23, 24, 25, 26, 27, 28, 29, 30, 31, 32] (by rfl) ?_; go_simp)
    | (refine laterL_I [7, 8, 9, 10, 11, 12, 13] [14, 15, 16, 17, 18, 19, 20, 21, 22, 23, 24, 25, 26, 27, 28, 29, 30, 31, 32] ?_; go_simp)
    | (refine laterL_I [14, 15, 16, 17, 18, 19, 20] [21, 22, 23, 24, 25, 26, 27, 28, 29, 30, 31, 32] ?_; go_simp)
    | (refine laterL_I [21, 22, 23, 24, 25, 26, 27] [28, 29, 30, 31, 32] ?_; go_simp)
    | (refine laterL_E ?_; go_simp)
    | (refine AW.reg F ?_; go_simp)
    | (refine AW.condX ?_; go_simp)
    | (refine AW.skip ?_; go_simp)
    | (refine AW.exit ?_; go_simp)
    | (refine AW.ret ?_; go_simp)
    | (refine ⟨_, ce, ?_⟩; go_simp)
    | (refine ⟨_, cf, ?_⟩; go_simp)
    | refine ⟨fun h => ?_, fun h => ?_⟩
    | intro h
end Go.Proofs.YtakncilicoefdaaGreatDoor
