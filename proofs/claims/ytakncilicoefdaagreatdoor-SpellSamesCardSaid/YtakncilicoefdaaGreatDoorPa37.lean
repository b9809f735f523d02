/- Lemmas and contracts for the laws SpellSames, part 37 of 47: SpD. Conditions: those that each lemma names. -/
import Derived.Test.YtakncilicoefdaaGreatDoorPa35
import Derived.Test.YtakncilicoefdaaGreatDoorPa33
set_option maxRecDepth 100000
set_option maxHeartbeats 80000000
namespace Go.Proofs.YtakncilicoefdaaGreatDoor
open Go Go.RowKit Go.Proofs Th
set_option maxRecDepth 8000
attribute [local go_sem] aops aopsD stepA chkD disj aguard isWant aop aval abuil acall acallP acallR argsIV valOf aput startS mkS numb look upd toIV allIV zeroFV aload setSeg afill aelems cellsOf toSl toVal valsOf aidx abin ainR FV.ok IV.one IV.er IV.erA IV.er1 iI sI bI nodeIV nodesIV tokIV parIV faultV resP lift AThen ABlock AEnd resL resV rload rcOf imsOf oneV nodeJ kidsJ strJ knownJ selfJ noNJ noTf foot owns pruneS filtF filtO Value.oneCell'
attribute [local go_sem] ti_node ti_tok ti_par ti_fault ti_nodes ti_toks ti_strs ti_ints ti_str ti_int ti_num ti_errno
attribute [local go_sem] sel
attribute [local go_sem] zeroN nodesIV_append nodesIV_len kidC rowC nodeF
attribute [local go_sem] nodesIV_getE List.map_append List.map_cons List.map_nil List.length_map
variable {G : World → CS → Prop}
def NumRP (G : World → CS → Prop) : Prop := ∀ m e : Int, I64 m → ACalls Tryz.prog G 50 none [.agg [iI m, iI e]] (.ret (bI (right m e)) [])
def QuoRP (G : World → CS → Prop) : Prop := ∀ s : ByteArray, s.size ≤ 140737488351232 → ACalls Tryz.prog G 63 none [sI s] (.ret (bI (Lib.validD s.data.toList)) [])
theorem sp_binds (gk : GK G) (k1 : Int) (t1 : ByteArray) (m1 q1 : Int) (l1 : List NJ) (b1 : List ByteArray) (hs : t1.size ≤ 140737488351232) (hb : ∀ x ∈ b1, x.size ≤ 140737488351232) (hk0 : 18 < k1 ∧ k1 ≠ 26 ∨ k1 < 1) : ACalls Tryz.prog G 65 none [.agg (nodeIV (.mk k1 t1 m1 q1 l1 b1)), iI l1.length] (.ret (bI (fitJ (.mk k1 t1 m1 q1 l1 b1))) []) := by
  have c1 := sp_name gk t1 hs; have c2 := sp_free gk t1 hs; have c3 := sp_params gk b1 hb; have c4 : ACalls Tryz.prog G 64 none [sI t1, .sl [[sI ⟨#[61]⟩], [sI ⟨#[124, 61]⟩], [sI ⟨#[43, 61]⟩], [sI ⟨#[45, 61]⟩], [sI ⟨#[42, 61]⟩], [sI ⟨#[47, 61]⟩], [sI ⟨#[47, 47, 61]⟩]] false] (.ret (bI (inB sets7 t1)) []) := sp_one gk sets7 t1; by_cases hk : k1 = 19
  · subst hk
    all_goals
      by_cases hn : l1.length = 3
      · rw [show fitJ (.mk _ t1 m1 q1 l1 b1) = nameB t1 by simp [fitJ, hn]]
        have hnI : (l1.length : Int) = 3 := by omega
        refine ACalls.enter Tryz.func65 rfl rfl gk Tryz.ntmps65 fun X F => ?_
        repeat' first
          | refine AW.seq ?_
          | refine AW.block ?_
          | (refine AW.reg F ?_; go_simp)
          | (refine AW.condX ?_; go_simp)
          | (refine AW.skip ?_; go_simp)
          | (refine AW.exit ?_; go_simp)
          | (refine AW.ret ?_; go_simp)
          | (refine ⟨_, c1, ?_⟩; go_simp)
          | refine ⟨fun h => ?_, fun h => ?_⟩
          | intro h
      rw [show fitJ (.mk _ t1 m1 q1 l1 b1) = false by simp [fitJ, hn]]; have hnI : ¬ (l1.length : Int) = 3 := by omega
      refine ACalls.enter Tryz.func65 rfl rfl gk Tryz.ntmps65 fun X F => ?_
      repeat' first
        | refine AW.seq ?_
        | refine AW.block ?_
        | (refine AW.reg F ?_; go_simp)
        | (refine AW.condX ?_; go_simp)
        | (refine AW.skip ?_; go_simp)
        | (refine AW.exit ?_; go_simp)
        | (refine AW.ret ?_; go_simp)
        | (refine ⟨_, c1, ?_⟩; go_simp)
        | refine ⟨fun h => ?_, fun h => ?_⟩
        | intro h
  by_cases hk : k1 = 20
  · subst hk
    all_goals
      by_cases hn : l1.length = 4
      · rw [show fitJ (.mk _ t1 m1 q1 l1 b1) = nameB t1 by simp [fitJ, hn]]
        have hnI : (l1.length : Int) = 4 := by omega
        refine ACalls.enter Tryz.func65 rfl rfl gk Tryz.ntmps65 fun X F => ?_
        repeat' first
          | refine AW.seq ?_
          | refine AW.block ?_
          | (refine AW.reg F ?_; go_simp)
          | (refine AW.condX ?_; go_simp)
          | (refine AW.skip ?_; go_simp)
          | (refine AW.exit ?_; go_simp)
          | (refine AW.ret ?_; go_simp)
          | (refine ⟨_, c1, ?_⟩; go_simp)
          | refine ⟨fun h => ?_, fun h => ?_⟩
          | intro h
      rw [show fitJ (.mk _ t1 m1 q1 l1 b1) = false by simp [fitJ, hn]]; have hnI : ¬ (l1.length : Int) = 4 := by omega
      refine ACalls.enter Tryz.func65 rfl rfl gk Tryz.ntmps65 fun X F => ?_
      repeat' first
        | refine AW.seq ?_
        | refine AW.block ?_
        | (refine AW.reg F ?_; go_simp)
        | (refine AW.condX ?_; go_simp)
        | (refine AW.skip ?_; go_simp)
        | (refine AW.exit ?_; go_simp)
        | (refine AW.ret ?_; go_simp)
        | (refine ⟨_, c1, ?_⟩; go_simp)
        | refine ⟨fun h => ?_, fun h => ?_⟩
        | intro h
  by_cases hk : k1 = 21
  · subst hk
    all_goals
      by_cases hn : l1.length = 2
      · rw [show fitJ (.mk _ t1 m1 q1 l1 b1) = nameB t1 by simp [fitJ, hn]]
        have hnI : (l1.length : Int) = 2 := by omega
        refine ACalls.enter Tryz.func65 rfl rfl gk Tryz.ntmps65 fun X F => ?_
        repeat' first
          | refine AW.seq ?_
          | refine AW.block ?_
          | (refine AW.reg F ?_; go_simp)
          | (refine AW.condX ?_; go_simp)
          | (refine AW.skip ?_; go_simp)
          | (refine AW.exit ?_; go_simp)
          | (refine AW.ret ?_; go_simp)
          | (refine ⟨_, c1, ?_⟩; go_simp)
          | refine ⟨fun h => ?_, fun h => ?_⟩
          | intro h
      rw [show fitJ (.mk _ t1 m1 q1 l1 b1) = false by simp [fitJ, hn]]; have hnI : ¬ (l1.length : Int) = 2 := by omega
      refine ACalls.enter Tryz.func65 rfl rfl gk Tryz.ntmps65 fun X F => ?_
      repeat' first
        | refine AW.seq ?_
        | refine AW.block ?_
        | (refine AW.reg F ?_; go_simp)
        | (refine AW.condX ?_; go_simp)
        | (refine AW.skip ?_; go_simp)
        | (refine AW.exit ?_; go_simp)
        | (refine AW.ret ?_; go_simp)
        | (refine ⟨_, c1, ?_⟩; go_simp)
        | refine ⟨fun h => ?_, fun h => ?_⟩
        | intro h
  by_cases hk : k1 = 22
  · subst hk
    all_goals
      by_cases hn : l1.length = 0
      · rw [show fitJ (.mk _ t1 m1 q1 l1 b1) = nameB t1 by simp [fitJ, hn]]
        have hnI : (l1.length : Int) = 0 := by omega
        refine ACalls.enter Tryz.func65 rfl rfl gk Tryz.ntmps65 fun X F => ?_
        repeat' first
          | refine AW.seq ?_
          | refine AW.block ?_
          | (refine AW.reg F ?_; go_simp)
          | (refine AW.condX ?_; go_simp)
          | (refine AW.skip ?_; go_simp)
          | (refine AW.exit ?_; go_simp)
          | (refine AW.ret ?_; go_simp)
          | (refine ⟨_, c1, ?_⟩; go_simp)
          | refine ⟨fun h => ?_, fun h => ?_⟩
          | intro h
      rw [show fitJ (.mk _ t1 m1 q1 l1 b1) = false by simp [fitJ, hn]]; have hnI : ¬ (l1.length : Int) = 0 := by omega
      refine ACalls.enter Tryz.func65 rfl rfl gk Tryz.ntmps65 fun X F => ?_
      repeat' first
        | refine AW.seq ?_
        | refine AW.block ?_
        | (refine AW.reg F ?_; go_simp)
        | (refine AW.condX ?_; go_simp)
        | (refine AW.skip ?_; go_simp)
        | (refine AW.exit ?_; go_simp)
        | (refine AW.ret ?_; go_simp)
        | (refine ⟨_, c1, ?_⟩; go_simp)
        | refine ⟨fun h => ?_, fun h => ?_⟩
        | intro h
  by_cases hk : k1 = 23
  · subst hk
    rw [show fitJ (.mk _ t1 m1 q1 l1 b1) = freeB t1 by simp [fitJ]]; refine ACalls.enter Tryz.func65 rfl rfl gk Tryz.ntmps65 fun X F => ?_
    repeat' first
      | refine AW.seq ?_
      | refine AW.block ?_
      | (refine AW.reg F ?_; go_simp)
      | (refine AW.condX ?_; go_simp)
      | (refine AW.skip ?_; go_simp)
      | (refine AW.exit ?_; go_simp)
      | (refine AW.ret ?_; go_simp)
      | (refine ⟨_, c2, ?_⟩; go_simp)
      | refine ⟨fun h => ?_, fun h => ?_⟩
      | intro h
  by_cases hk : k1 = 24
  · subst hk
    all_goals
      by_cases hn : l1.length = 2
      · rw [show fitJ (.mk _ t1 m1 q1 l1 b1) = (freeB t1 && b1.all paramB) by simp [fitJ, hn]]
        have hnI : (l1.length : Int) = 2 := by omega
        cases hf : freeB t1
        · rw [hf] at c2
          refine ACalls.enter Tryz.func65 rfl rfl gk Tryz.ntmps65 fun X F => ?_
          repeat' first
            | refine AW.seq ?_
            | refine AW.block ?_
            | (refine AW.reg F ?_; go_simp)
            | (refine AW.condX ?_; go_simp)
            | (refine AW.skip ?_; go_simp)
            | (refine AW.exit ?_; go_simp)
            | (refine AW.ret ?_; go_simp)
            | (refine ⟨_, c2, ?_⟩; go_simp)
            | refine ⟨fun h => ?_, fun h => ?_⟩
            | intro h
        rw [hf] at c2; rw [Bool.true_and]; refine ACalls.enter Tryz.func65 rfl rfl gk Tryz.ntmps65 fun X F => ?_
        repeat' first
          | refine AW.seq ?_
          | refine AW.block ?_
          | (refine AW.reg F ?_; go_simp)
          | (refine AW.condX ?_; go_simp)
          | (refine AW.skip ?_; go_simp)
          | (refine AW.exit ?_; go_simp)
          | (refine AW.ret ?_; go_simp)
          | (refine ⟨_, c2, ?_⟩; go_simp)
          | (refine ⟨_, c3, ?_⟩; go_simp)
          | refine ⟨fun h => ?_, fun h => ?_⟩
          | intro h
      rw [show fitJ (.mk _ t1 m1 q1 l1 b1) = false by simp [fitJ, hn]]; have hnI : ¬ (l1.length : Int) = 2 := by omega
      refine ACalls.enter Tryz.func65 rfl rfl gk Tryz.ntmps65 fun X F => ?_
      repeat' first
        | refine AW.seq ?_
        | refine AW.block ?_
        | (refine AW.reg F ?_; go_simp)
        | (refine AW.condX ?_; go_simp)
        | (refine AW.skip ?_; go_simp)
        | (refine AW.exit ?_; go_simp)
        | (refine AW.ret ?_; go_simp)
        | (refine ⟨_, c2, ?_⟩; go_simp)
        | (refine ⟨_, c3, ?_⟩; go_simp)
        | refine ⟨fun h => ?_, fun h => ?_⟩
        | intro h
  by_cases hk : k1 = 25
  · subst hk
    all_goals
      by_cases hn : l1.length = 2
      · rw [show fitJ (.mk _ t1 m1 q1 l1 b1) = inB sets7 t1 by simp [fitJ, hn]]
        have hnI : (l1.length : Int) = 2 := by omega
        refine ACalls.enter Tryz.func65 rfl rfl gk Tryz.ntmps65 fun X F => ?_
        repeat' first
          | refine AW.seq ?_
          | refine AW.block ?_
          | (refine AW.reg F ?_; go_simp)
          | (refine AW.condX ?_; go_simp)
          | (refine AW.skip ?_; go_simp)
          | (refine AW.exit ?_; go_simp)
          | (refine AW.ret ?_; go_simp)
          | (refine ⟨_, c4, ?_⟩; go_simp)
          | refine ⟨fun h => ?_, fun h => ?_⟩
          | intro h
      rw [show fitJ (.mk _ t1 m1 q1 l1 b1) = false by simp [fitJ, hn]]; have hnI : ¬ (l1.length : Int) = 2 := by omega
      refine ACalls.enter Tryz.func65 rfl rfl gk Tryz.ntmps65 fun X F => ?_
      repeat' first
        | refine AW.seq ?_
        | refine AW.block ?_
        | (refine AW.reg F ?_; go_simp)
        | (refine AW.condX ?_; go_simp)
        | (refine AW.skip ?_; go_simp)
        | (refine AW.exit ?_; go_simp)
        | (refine AW.ret ?_; go_simp)
        | (refine ⟨_, c4, ?_⟩; go_simp)
        | refine ⟨fun h => ?_, fun h => ?_⟩
        | intro h
  rw [show fitJ (.mk k1 t1 m1 q1 l1 b1) = false by simp only [fitJ]; repeat rw [if_neg (by omega)]]; refine ACalls.enter Tryz.func65 rfl rfl gk Tryz.ntmps65 fun X F => ?_
  repeat' first
    | refine AW.seq ?_
    | refine AW.block ?_
    | (refine AW.reg F ?_; go_simp)
    | (refine AW.condX ?_; go_simp)
    | (refine AW.skip ?_; go_simp)
    | (refine AW.exit ?_; go_simp)
    | (refine AW.ret ?_; go_simp)
    | refine ⟨fun h => ?_, fun h => ?_⟩
    | intro h
theorem even_none {l : List NJ} {k : Nat} (h : l.length ≤ k) : evenStr (l.drop k) = true := by rw [List.drop_eq_nil_of_le h]; rfl
theorem even_step {l : List NJ} {k : Nat} (h : k < l.length) : evenStr (l.drop k) = (decide (kindJ l[k] = 3) && evenStr (l.drop (k + 2))) := by
  rw [List.drop_eq_getElem_cons h]; cases hd : l.drop (k + 1) with
  | nil =>
    have : l.length ≤ k + 1 := List.drop_eq_nil_iff.1 hd; rw [even_none (by omega), Bool.and_true]; rfl
  | cons y r =>
    have : l.drop (k + 2) = r := by rw [← List.drop_drop (i := 1) (j := k + 1), hd]; rfl
    rw [this]; rfl
theorem sp_fits4 (gk : GK G) (t1 : ByteArray) (m1 q1 : Int) (l1 : List NJ) (b1 : List ByteArray) : ACalls Tryz.prog G 43 none [.agg (nodeIV (.mk 4 t1 m1 q1 l1 b1))] (.ret (bI (fitJ (.mk 4 t1 m1 q1 l1 b1))) []) := by
  by_cases hlen : l1.length ≤ 140737488351232
  case neg => exact ⟨⟨_, Tryz.func43, rfl, rfl⟩, fun W S p us hG hSb hrc hrep => absurd (by have := agg_room (i := 4) hrep rfl; rwa [nodesIV_len] at this) hlen⟩
  rw [show fitJ (.mk 4 t1 m1 q1 l1 b1) = (evenStr l1 && decide (3 ≤ l1.length) && decide (l1.length % 2 = 1)) by simp [fitJ]]; obtain ⟨z, hz⟩ : ∃ z, evenStr l1 = z := ⟨_, rfl⟩
  obtain ⟨zz, hzz⟩ : ∃ zz, (evenStr l1 && decide (3 ≤ l1.length) && decide (l1.length % 2 = 1)) = zz := ⟨_, rfl⟩
  rw [hzz]; refine ACalls.enter Tryz.func43 rfl rfl gk Tryz.ntmps43 fun X F => ?_
  apply Ar F; go_simp; apply Ar F; go_simp; apply Ar F; go_simp; (repeat apply Aq); apply Ab; apply Ar F; go_simp; (repeat apply Aq); refine Af (by go_simp) ?_; apply Ar F; go_simp; (repeat apply Aq); refine Af (by go_simp) ?_; apply Ar F; go_simp; (repeat apply Aq); refine Af (by go_simp) ?_; apply Ar F; go_simp; (repeat apply Aq); refine Af (by go_simp) ?_; apply Ar F; go_simp; (repeat apply Aq); refine At (by go_simp) ?_; apply Ar F; go_simp; (repeat apply Aq); apply Ab; (repeat apply Aq); refine AW.loopP [1, 3, 4] [1000, 1] (by decide) (fun g t => ∃ k : Nat, t = mkS [(1, .ptr 1 0), (3, .im (iI l1.length)), (4, .im (iI k))] [(1000, .none), (1, .box ((nodeIV (.mk 4 t1 m1 q1 l1 b1)).map .im))] ∧ g = l1.length - k ∧ k ≤ l1.length + 1 ∧ evenStr (l1.drop k) = z) (l1.length) ?_ ?_
  · refine ⟨0, ?_, by omega, by omega, hz⟩
    go_simp
  rintro g t ⟨k, rfl, rfl, hk, hg⟩; by_cases hkt : k < l1.length
  · have hkI : (k : Int) < (l1.length : Int) := by omega
    have hrk := rng ((k : Int) + 2) (by omega); rw [even_step hkt] at hg; obtain ⟨⟨k5, t5, m5, q5, l5, b5⟩, hx⟩ : ∃ x, l1[k] = x := ⟨_, rfl⟩
    skip
    apply Ar F; go_simp; (repeat apply Aq); refine At (by go_simp) ?_; apply As; go_simp; (repeat apply Aq); apply Ab; by_cases h3 : k5 = 3
    · subst h3
      rw [show decide (kindJ l1[k] = 3) = true by rw [hx]; rfl, Bool.true_and] at hg; apply Ar F; go_simp; (repeat apply Aq); refine Af (by go_simp) ?_; apply As; go_simp; apply Ar F; go_simp; refine ⟨l1.length - (k + 2), by omega, k + 2, ?_, by omega, by omega, hg⟩; go_simp
    rw [show decide (kindJ l1[k] = 3) = false by rw [hx]; exact decide_eq_false h3, Bool.false_and] at hg; subst hg; have hq : zz = false := by rw [← hzz, hz]; rfl
    subst hq; apply Ar F; go_simp; (repeat apply Aq); refine At (by go_simp) ?_; apply Ar F; go_simp; apply Au; go_simp
  have hkI : ¬ (k : Int) < (l1.length : Int) := by omega
  rw [even_none (by omega)] at hg; subst hg; apply Ar F; go_simp; (repeat apply Aq); refine Af (by go_simp) ?_; apply Ae; go_simp; by_cases hl : 3 ≤ l1.length
  · have hlI : (3 : Int) ≤ (l1.length : Int) := by omega
    by_cases hm : l1.length % 2 = 1
    · have hmI : (l1.length : Int).tmod 2 = 1 := by rw [Int.tmod_eq_emod_of_nonneg (by omega)]; omega
      have hq : zz = true := by rw [← hzz, hz]; simp [hl, hm]
      subst hq; apply Ar F; go_simp; apply Au; go_simp
    have hmI : ¬ (l1.length : Int).tmod 2 = 1 := by rw [Int.tmod_eq_emod_of_nonneg (by omega)]; omega
    have hq : zz = false := by rw [← hzz, hz]; simp [hm]
    subst hq; apply Ar F; go_simp; apply Au; go_simp
  have hlI : ¬ (3 : Int) ≤ (l1.length : Int) := by omega
  have hq : zz = false := by rw [← hzz, hz]; simp [hl]
  subst hq; apply Ar F; go_simp; apply Au; go_simp
theorem sp_fits6 (gk : GK G) (t1 : ByteArray) (m1 q1 : Int) (l1 : List NJ) (b1 : List ByteArray) : ACalls Tryz.prog G 43 none [.agg (nodeIV (.mk 6 t1 m1 q1 l1 b1))] (.ret (bI (fitJ (.mk 6 t1 m1 q1 l1 b1))) []) := by
  by_cases hlen : b1.length ≤ 140737488351232
  case neg => exact ⟨⟨_, Tryz.func43, rfl, rfl⟩, fun W S p us hG hSb hrc hrep => absurd (by have := agg_room (i := 5) hrep rfl; rwa [List.length_map] at this) hlen⟩
  have hrb := rng ((b1.length : Int) + 1) (by omega); by_cases hn : l1.length = b1.length + 1
  case neg =>
    have hnI : ¬ (l1.length : Int) = (b1.length : Int) + 1 := by omega
    rw [show fitJ (.mk 6 t1 m1 q1 l1 b1) = false by simp [fitJ, hn]]; refine ACalls.enter Tryz.func43 rfl rfl gk Tryz.ntmps43 fun X F => ?_
    repeat' first
      | refine AW.seq ?_
      | refine AW.block ?_
      | (refine AW.regL F [0, 1, 2, 3, 4, 5, 6, 7] [8, 9, 10, 11, 12, 13, 14, 15, 16, 17, 18, 19, 20, 21, 22, 23, 24, 25, 26, 27, 28, 29, 30, 31, 32, 33, 34, 35, 36] (by rfl) ?_; go_simp)
      | (refine laterL_I [8, 9, 10, 11, 12, 13, 14, 15] [16, 17, 18, 19, 20, 21, 22, 23, 24, 25, 26, 27, 28, 29, 30, 31, 32, 33, 34, 35, 36] ?_; go_simp)
      | (refine laterL_I [16, 17, 18, 19, 20, 21, 22, 23] [24, 25, 26, 27, 28, 29, 30, 31, 32, 33, 34, 35, 36] ?_; go_simp)
      | (refine laterL_I [24, 25, 26, 27, 28, 29, 30, 31] [32, 33, 34, 35, 36] ?_; go_simp)
      | (refine laterL_E ?_; go_simp)
      | (refine AW.reg F ?_; go_simp)
      | (refine AW.condX ?_; go_simp)
      | (refine AW.skip ?_; go_simp)
      | (refine AW.exit ?_; go_simp)
      | (refine AW.ret ?_; go_simp)
      | refine ⟨fun h => ?_, fun h => ?_⟩
      | intro h
  have hnI : (l1.length : Int) = (b1.length : Int) + 1 := by omega
  rcases b1 with _ | ⟨x, _ | ⟨y, _ | ⟨z, r⟩⟩⟩
  · rw [show fitJ (.mk 6 t1 m1 q1 l1 []) = false by simp [fitJ]]
    have hnJ : (l1.length : Int) = 1 := by simpa using hnI
    refine ACalls.enter Tryz.func43 rfl rfl gk Tryz.ntmps43 fun X F => ?_
    repeat' first
      | refine AW.seq ?_
      | refine AW.block ?_
      | (refine AW.regL F [0, 1, 2, 3, 4, 5, 6, 7] [8, 9, 10, 11, 12, 13, 14, 15, 16, 17, 18, 19, 20, 21, 22, 23, 24, 25, 26, 27, 28, 29, 30, 31, 32, 33, 34, 35, 36] (by rfl) ?_; go_simp)
      | (refine laterL_I [8, 9, 10, 11, 12, 13, 14, 15] [16, 17, 18, 19, 20, 21, 22, 23, 24, 25, 26, 27, 28, 29, 30, 31, 32, 33, 34, 35, 36] ?_; go_simp)
      | (refine laterL_I [16, 17, 18, 19, 20, 21, 22, 23] [24, 25, 26, 27, 28, 29, 30, 31, 32, 33, 34, 35, 36] ?_; go_simp)
      | (refine laterL_I [24, 25, 26, 27, 28, 29, 30, 31] [32, 33, 34, 35, 36] ?_; go_simp)
      | (refine laterL_E ?_; go_simp)
      | (refine AW.reg F ?_; go_simp)
      | (refine AW.condX ?_; go_simp)
      | (refine AW.skip ?_; go_simp)
      | (refine AW.exit ?_; go_simp)
      | (refine AW.ret ?_; go_simp)
      | refine ⟨fun h => ?_, fun h => ?_⟩
      | intro h
  · have hnJ : (l1.length : Int) = 2 := by rw [hnI]; rfl
    have co : ACalls Tryz.prog G 64 none [sI x, .sl [[sI ⟨#[102, 114, 111, 109]⟩], [sI ⟨#[116, 111]⟩]] false] (.ret (bI (inB [fromB, toB] x)) []) := sp_one gk [fromB, toB] x; rw [show fitJ (.mk 6 t1 m1 q1 l1 [x]) = inB [fromB, toB] x by
      have : l1.length = 2 := by omega
      simp [fitJ, this, inB, eq_comm]]
    generalize inB [fromB, toB] x = bb at co ⊢; cases bb
    all_goals
      refine ACalls.enter Tryz.func43 rfl rfl gk Tryz.ntmps43 fun X F => ?_
      repeat' first
        | refine AW.seq ?_
        | refine AW.block ?_
        | (refine AW.regL F [0, 1, 2, 3, 4, 5, 6, 7] [8, 9, 10, 11, 12, 13, 14, 15, 16, 17, 18, 19, 20, 21, 22, 23, 24, 25, 26, 27, 28, 29, 30, 31, 32, 33, 34, 35, 36] (by rfl) ?_; go_simp)
        | (refine laterL_I [8, 9, 10, 11, 12, 13, 14, 15] [16, 17, 18, 19, 20, 21, 22, 23, 24, 25, 26, 27, 28, 29, 30, 31, 32, 33, 34, 35, 36] ?_; go_simp)
        | (refine laterL_I [16, 17, 18, 19, 20, 21, 22, 23] [24, 25, 26, 27, 28, 29, 30, 31, 32, 33, 34, 35, 36] ?_; go_simp)
        | (refine laterL_I [24, 25, 26, 27, 28, 29, 30, 31] [32, 33, 34, 35, 36] ?_; go_simp)
        | (refine laterL_E ?_; go_simp)
        | (refine AW.reg F ?_; go_simp)
        | (refine AW.condX ?_; go_simp)
        | (refine AW.skip ?_; go_simp)
        | (refine AW.exit ?_; go_simp)
        | (refine AW.ret ?_; go_simp)
        | (refine ⟨_, co, ?_⟩; go_simp)
        | refine ⟨fun h => ?_, fun h => ?_⟩
        | intro h
  · have hnJ : (l1.length : Int) = 3 := by rw [hnI]; rfl
    rw [show fitJ (.mk 6 t1 m1 q1 l1 [x, y]) = decide (x = fromB ∧ y = toB) by
      have : l1.length = 3 := by omega
      simp [fitJ, this]]
    by_cases hx : x = ⟨#[102, 114, 111, 109]⟩
    · by_cases hy : y = ⟨#[116, 111]⟩
      · rw [decide_eq_true (show x = fromB ∧ y = toB from ⟨hx, hy⟩)]
        refine ACalls.enter Tryz.func43 rfl rfl gk Tryz.ntmps43 fun X F => ?_
        repeat' first
          | refine AW.seq ?_
          | refine AW.block ?_
          | (refine AW.regL F [0, 1, 2, 3, 4, 5, 6, 7] [8, 9, 10, 11, 12, 13, 14, 15, 16, 17, 18, 19, 20, 21, 22, 23, 24, 25, 26, 27, 28, 29, 30, 31, 32, 33, 34, 35, 36] (by rfl) ?_; go_simp)
          | (refine laterL_I [8, 9, 10, 11, 12, 13, 14, 15] [16, 17, 18, 19, 20, 21, 22, 23, 24, 25, 26, 27, 28, 29, 30, 31, 32, 33, 34, 35, 36] ?_; go_simp)
          | (refine laterL_I [16, 17, 18, 19, 20, 21, 22, 23] [24, 25, 26, 27, 28, 29, 30, 31, 32, 33, 34, 35, 36] ?_; go_simp)
          | (refine laterL_I [24, 25, 26, 27, 28, 29, 30, 31] [32, 33, 34, 35, 36] ?_; go_simp)
          | (refine laterL_E ?_; go_simp)
          | (refine AW.reg F ?_; go_simp)
          | (refine AW.condX ?_; go_simp)
          | (refine AW.skip ?_; go_simp)
          | (refine AW.exit ?_; go_simp)
          | (refine AW.ret ?_; go_simp)
          | refine ⟨fun h => ?_, fun h => ?_⟩
          | intro h
      rw [decide_eq_false (show ¬ (x = fromB ∧ y = toB) from fun h => hy h.2)]; refine ACalls.enter Tryz.func43 rfl rfl gk Tryz.ntmps43 fun X F => ?_
      repeat' first
        | refine AW.seq ?_
        | refine AW.block ?_
        | (refine AW.regL F [0, 1, 2, 3, 4, 5, 6, 7] [8, 9, 10, 11, 12, 13, 14, 15, 16, 17, 18, 19, 20, 21, 22, 23, 24, 25, 26, 27, 28, 29, 30, 31, 32, 33, 34, 35, 36] (by rfl) ?_; go_simp)
        | (refine laterL_I [8, 9, 10, 11, 12, 13, 14, 15] [16, 17, 18, 19, 20, 21, 22, 23, 24, 25, 26, 27, 28, 29, 30, 31, 32, 33, 34, 35, 36] ?_; go_simp)
        | (refine laterL_I [16, 17, 18, 19, 20, 21, 22, 23] [24, 25, 26, 27, 28, 29, 30, 31, 32, 33, 34, 35, 36] ?_; go_simp)
        | (refine laterL_I [24, 25, 26, 27, 28, 29, 30, 31] [32, 33, 34, 35, 36] ?_; go_simp)
        | (refine laterL_E ?_; go_simp)
        | (refine AW.reg F ?_; go_simp)
        | (refine AW.condX ?_; go_simp)
        | (refine AW.skip ?_; go_simp)
        | (refine AW.exit ?_; go_simp)
        | (refine AW.ret ?_; go_simp)
        | refine ⟨fun h => ?_, fun h => ?_⟩
        | intro h
    rw [decide_eq_false (show ¬ (x = fromB ∧ y = toB) from fun h => hx h.1)]; refine ACalls.enter Tryz.func43 rfl rfl gk Tryz.ntmps43 fun X F => ?_
    repeat' first
      | refine AW.seq ?_
      | refine AW.block ?_
      | (refine AW.regL F [0, 1, 2, 3, 4, 5, 6, 7] [8, 9, 10, 11, 12, 13, 14, 15, 16, 17, 18, 19, 20, 21, 22, 23, 24, 25, 26, 27, 28, 29, 30, 31, 32, 33, 34, 35, 36] (by rfl) ?_; go_simp)
      | (refine laterL_I [8, 9, 10, 11, 12, 13, 14, 15] [16, 17, 18, 19, 20, 21, 22, 23, 24, 25, 26, 27, 28, 29, 30, 31, 32, 33, 34, 35, 36] ?_; go_simp)
      | (refine laterL_I [16, 17, 18, 19, 20, 21, 22, 23] [24, 25, 26, 27, 28, 29, 30, 31, 32, 33, 34, 35, 36] ?_; go_simp)
      | (refine laterL_I [24, 25, 26, 27, 28, 29, 30, 31] [32, 33, 34, 35, 36] ?_; go_simp)
      | (refine laterL_E ?_; go_simp)
      | (refine AW.reg F ?_; go_simp)
      | (refine AW.condX ?_; go_simp)
      | (refine AW.skip ?_; go_simp)
      | (refine AW.exit ?_; go_simp)
      | (refine AW.ret ?_; go_simp)
      | refine ⟨fun h => ?_, fun h => ?_⟩
      | intro h
  rw [show fitJ (.mk 6 t1 m1 q1 l1 (x :: y :: z :: r)) = false by simp [fitJ]]; have hn2 : ¬ (l1.length : Int) = 2 := by simp at hnI; omega
  have hn3 : ¬ (l1.length : Int) = 3 := by simp at hnI; omega
  have hrr := rng ((r.length : Int) + 1 + 1 + 1 + 1) (by simp at hrb; omega); refine ACalls.enter Tryz.func43 rfl rfl gk Tryz.ntmps43 fun X F => ?_
  repeat' first
    | refine AW.seq ?_
    | refine AW.block ?_
    | (refine AW.regL F [0, 1, 2, 3, 4, 5, 6, 7] [8, 9, 10, 11, 12, 13, 14, 15, 16, 17, 18, 19, 20, 21, 22, 23, 24, 25, 26, 27, 28, 29, 30, 31, 32, 33, 34, 35, 36] (by rfl) ?_; go_simp)
    | (refine laterL_I [8, 9, 10, 11, 12, 13, 14, 15] [16, 17, 18, 19, 20, 21, 22, 23, 24, 25, 26, 27, 28, 29, 30, 31, 32, 33, 34, 35, 36] ?_; go_simp)
    | (refine laterL_I [16, 17, 18, 19, 20, 21, 22, 23] [24, 25, 26, 27, 28, 29, 30, 31, 32, 33, 34, 35, 36] ?_; go_simp)
    | (refine laterL_I [24, 25, 26, 27, 28, 29, 30, 31] [32, 33, 34, 35, 36] ?_; go_simp)
    | (refine laterL_E ?_; go_simp)
    | (refine AW.reg F ?_; go_simp)
    | (refine AW.condX ?_; go_simp)
    | (refine AW.skip ?_; go_simp)
    | (refine AW.exit ?_; go_simp)
    | (refine AW.ret ?_; go_simp)
    | refine ⟨fun h => ?_, fun h => ?_⟩
    | intro h
theorem sp_fits (gk : GK G) (hN : NumRP G) (hQ : QuoRP G) (n : NJ) (hn : nokJ n) : ACalls Tryz.prog G 43 none [.agg (nodeIV n)] (.ret (bI (fitJ n)) []) := by
  obtain ⟨k1, t1, m1, q1, l1, b1⟩ := n; obtain ⟨_, hm, _, hs, hb, _⟩ := hn; have cn := hN m1 q1 hm; have cq := hQ t1 hs; have co : ACalls Tryz.prog G 64 none [sI t1, .sl [[sI ⟨#[61, 61]⟩], [sI ⟨#[33, 61]⟩], [sI ⟨#[60]⟩], [sI ⟨#[60, 61]⟩], [sI ⟨#[62]⟩], [sI ⟨#[62, 61]⟩], [sI ⟨#[43]⟩], [sI ⟨#[45]⟩], [sI ⟨#[42]⟩], [sI ⟨#[47]⟩], [sI ⟨#[37]⟩]] false] (.ret (bI (inB opers11 t1)) []) := sp_one gk opers11 t1; by_cases hk : k1 = 1 ∨ k1 = 26
  · rcases hk with rfl | rfl
    all_goals
      by_cases hn : l1.length = 0
      · rw [show fitJ (.mk _ t1 m1 q1 l1 b1) = true by simp [fitJ, hn]]
        have hnI : (l1.length : Int) = 0 := by omega
        refine ACalls.enter Tryz.func43 rfl rfl gk Tryz.ntmps43 fun X F => ?_
        repeat' first
          | refine AW.seq ?_
          | refine AW.block ?_
          | (refine AW.reg F ?_; go_simp)
          | (refine AW.condX ?_; go_simp)
          | (refine AW.skip ?_; go_simp)
          | (refine AW.exit ?_; go_simp)
          | (refine AW.ret ?_; go_simp)
          | refine ⟨fun h => ?_, fun h => ?_⟩
          | intro h
      rw [show fitJ (.mk _ t1 m1 q1 l1 b1) = false by simp [fitJ, hn]]; have hnI : ¬ (l1.length : Int) = 0 := by omega
      refine ACalls.enter Tryz.func43 rfl rfl gk Tryz.ntmps43 fun X F => ?_
      repeat' first
        | refine AW.seq ?_
        | refine AW.block ?_
        | (refine AW.reg F ?_; go_simp)
        | (refine AW.condX ?_; go_simp)
        | (refine AW.skip ?_; go_simp)
        | (refine AW.exit ?_; go_simp)
        | (refine AW.ret ?_; go_simp)
        | refine ⟨fun h => ?_, fun h => ?_⟩
        | intro h
  by_cases hk : k1 = 2
  · subst hk
    all_goals
      by_cases hn : l1.length = 0
      · rw [show fitJ (.mk _ t1 m1 q1 l1 b1) = (right m1 q1 && decide (0 ≤ m1)) by simp [fitJ, hn]]
        have hnI : (l1.length : Int) = 0 := by omega
        cases hr : right m1 q1
        · rw [hr] at cn
          refine ACalls.enter Tryz.func43 rfl rfl gk Tryz.ntmps43 fun X F => ?_
          repeat' first
            | refine AW.seq ?_
            | refine AW.block ?_
            | (refine AW.reg F ?_; go_simp)
            | (refine AW.condX ?_; go_simp)
            | (refine AW.skip ?_; go_simp)
            | (refine AW.exit ?_; go_simp)
            | (refine AW.ret ?_; go_simp)
            | (refine ⟨_, cn, ?_⟩; go_simp)
            | refine ⟨fun h => ?_, fun h => ?_⟩
            | intro h
        rw [hr] at cn; rw [Bool.true_and]; by_cases h0 : 0 ≤ m1
        · rw [decide_eq_true h0]
          refine ACalls.enter Tryz.func43 rfl rfl gk Tryz.ntmps43 fun X F => ?_
          repeat' first
            | refine AW.seq ?_
            | refine AW.block ?_
            | (refine AW.reg F ?_; go_simp)
            | (refine AW.condX ?_; go_simp)
            | (refine AW.skip ?_; go_simp)
            | (refine AW.exit ?_; go_simp)
            | (refine AW.ret ?_; go_simp)
            | (refine ⟨_, cn, ?_⟩; go_simp)
            | refine ⟨fun h => ?_, fun h => ?_⟩
            | intro h
        rw [decide_eq_false h0]; refine ACalls.enter Tryz.func43 rfl rfl gk Tryz.ntmps43 fun X F => ?_
        repeat' first
          | refine AW.seq ?_
          | refine AW.block ?_
          | (refine AW.reg F ?_; go_simp)
          | (refine AW.condX ?_; go_simp)
          | (refine AW.skip ?_; go_simp)
          | (refine AW.exit ?_; go_simp)
          | (refine AW.ret ?_; go_simp)
          | (refine ⟨_, cn, ?_⟩; go_simp)
          | refine ⟨fun h => ?_, fun h => ?_⟩
          | intro h
      rw [show fitJ (.mk _ t1 m1 q1 l1 b1) = false by simp [fitJ, hn]]; have hnI : ¬ (l1.length : Int) = 0 := by omega
      refine ACalls.enter Tryz.func43 rfl rfl gk Tryz.ntmps43 fun X F => ?_
      repeat' first
        | refine AW.seq ?_
        | refine AW.block ?_
        | (refine AW.reg F ?_; go_simp)
        | (refine AW.condX ?_; go_simp)
        | (refine AW.skip ?_; go_simp)
        | (refine AW.exit ?_; go_simp)
        | (refine AW.ret ?_; go_simp)
        | (refine ⟨_, cn, ?_⟩; go_simp)
        | refine ⟨fun h => ?_, fun h => ?_⟩
        | intro h
  by_cases hk : k1 = 3
  · subst hk
    all_goals
      by_cases hn : l1.length = 0
      · rw [show fitJ (.mk _ t1 m1 q1 l1 b1) = Lib.validD t1.data.toList by simp [fitJ, hn]]
        have hnI : (l1.length : Int) = 0 := by omega
        refine ACalls.enter Tryz.func43 rfl rfl gk Tryz.ntmps43 fun X F => ?_
        repeat' first
          | refine AW.seq ?_
          | refine AW.block ?_
          | (refine AW.reg F ?_; go_simp)
          | (refine AW.condX ?_; go_simp)
          | (refine AW.skip ?_; go_simp)
          | (refine AW.exit ?_; go_simp)
          | (refine AW.ret ?_; go_simp)
          | (refine ⟨_, cq, ?_⟩; go_simp)
          | refine ⟨fun h => ?_, fun h => ?_⟩
          | intro h
      rw [show fitJ (.mk _ t1 m1 q1 l1 b1) = false by simp [fitJ, hn]]; have hnI : ¬ (l1.length : Int) = 0 := by omega
      refine ACalls.enter Tryz.func43 rfl rfl gk Tryz.ntmps43 fun X F => ?_
      repeat' first
        | refine AW.seq ?_
        | refine AW.block ?_
        | (refine AW.reg F ?_; go_simp)
        | (refine AW.condX ?_; go_simp)
        | (refine AW.skip ?_; go_simp)
        | (refine AW.exit ?_; go_simp)
        | (refine AW.ret ?_; go_simp)
        | (refine ⟨_, cq, ?_⟩; go_simp)
        | refine ⟨fun h => ?_, fun h => ?_⟩
        | intro h
  by_cases hk : k1 = 4
  · subst hk
    exact sp_fits4 gk t1 m1 q1 l1 b1
  by_cases hk : k1 = 5 ∨ k1 = 8 ∨ k1 = 9 ∨ k1 = 11 ∨ k1 = 12 ∨ k1 = 13
  · rcases hk with rfl | rfl | rfl | rfl | rfl | rfl
    all_goals
      by_cases hn : l1.length = 2
      · rw [show fitJ (.mk _ t1 m1 q1 l1 b1) = true by simp [fitJ, hn]]
        have hnI : (l1.length : Int) = 2 := by omega
        refine ACalls.enter Tryz.func43 rfl rfl gk Tryz.ntmps43 fun X F => ?_
        repeat' first
          | refine AW.seq ?_
          | refine AW.block ?_
          | (refine AW.reg F ?_; go_simp)
          | (refine AW.condX ?_; go_simp)
          | (refine AW.skip ?_; go_simp)
          | (refine AW.exit ?_; go_simp)
          | (refine AW.ret ?_; go_simp)
          | refine ⟨fun h => ?_, fun h => ?_⟩
          | intro h
      rw [show fitJ (.mk _ t1 m1 q1 l1 b1) = false by simp [fitJ, hn]]; have hnI : ¬ (l1.length : Int) = 2 := by omega
      refine ACalls.enter Tryz.func43 rfl rfl gk Tryz.ntmps43 fun X F => ?_
      repeat' first
        | refine AW.seq ?_
        | refine AW.block ?_
        | (refine AW.reg F ?_; go_simp)
        | (refine AW.condX ?_; go_simp)
        | (refine AW.skip ?_; go_simp)
        | (refine AW.exit ?_; go_simp)
        | (refine AW.ret ?_; go_simp)
        | refine ⟨fun h => ?_, fun h => ?_⟩
        | intro h
  by_cases hk : k1 = 6
  · subst hk
    exact sp_fits6 gk t1 m1 q1 l1 b1
  by_cases hk : k1 = 7 ∨ k1 = 14
  · rcases hk with rfl | rfl
    all_goals
      by_cases hn : l1.length = 1
      · rw [show fitJ (.mk _ t1 m1 q1 l1 b1) = true by simp [fitJ, hn]]
        have hnI : (l1.length : Int) = 1 := by omega
        refine ACalls.enter Tryz.func43 rfl rfl gk Tryz.ntmps43 fun X F => ?_
        repeat' first
          | refine AW.seq ?_
          | refine AW.block ?_
          | (refine AW.reg F ?_; go_simp)
          | (refine AW.condX ?_; go_simp)
          | (refine AW.skip ?_; go_simp)
          | (refine AW.exit ?_; go_simp)
          | (refine AW.ret ?_; go_simp)
          | refine ⟨fun h => ?_, fun h => ?_⟩
          | intro h
      rw [show fitJ (.mk _ t1 m1 q1 l1 b1) = false by simp [fitJ, hn]]; have hnI : ¬ (l1.length : Int) = 1 := by omega
      refine ACalls.enter Tryz.func43 rfl rfl gk Tryz.ntmps43 fun X F => ?_
      repeat' first
        | refine AW.seq ?_
        | refine AW.block ?_
        | (refine AW.reg F ?_; go_simp)
        | (refine AW.condX ?_; go_simp)
        | (refine AW.skip ?_; go_simp)
        | (refine AW.exit ?_; go_simp)
        | (refine AW.ret ?_; go_simp)
        | refine ⟨fun h => ?_, fun h => ?_⟩
        | intro h
  by_cases hk : k1 = 10
  · subst hk
    all_goals
      by_cases hn : l1.length = 2
      · rw [show fitJ (.mk _ t1 m1 q1 l1 b1) = inB opers11 t1 by simp [fitJ, hn]]
        have hnI : (l1.length : Int) = 2 := by omega
        refine ACalls.enter Tryz.func43 rfl rfl gk Tryz.ntmps43 fun X F => ?_
        repeat' first
          | refine AW.seq ?_
          | refine AW.block ?_
          | (refine AW.reg F ?_; go_simp)
          | (refine AW.condX ?_; go_simp)
          | (refine AW.skip ?_; go_simp)
          | (refine AW.exit ?_; go_simp)
          | (refine AW.ret ?_; go_simp)
          | (refine ⟨_, co, ?_⟩; go_simp)
          | refine ⟨fun h => ?_, fun h => ?_⟩
          | intro h
      rw [show fitJ (.mk _ t1 m1 q1 l1 b1) = false by simp [fitJ, hn]]; have hnI : ¬ (l1.length : Int) = 2 := by omega
      refine ACalls.enter Tryz.func43 rfl rfl gk Tryz.ntmps43 fun X F => ?_
      repeat' first
        | refine AW.seq ?_
        | refine AW.block ?_
        | (refine AW.reg F ?_; go_simp)
        | (refine AW.condX ?_; go_simp)
        | (refine AW.skip ?_; go_simp)
        | (refine AW.exit ?_; go_simp)
        | (refine AW.ret ?_; go_simp)
        | (refine ⟨_, co, ?_⟩; go_simp)
        | refine ⟨fun h => ?_, fun h => ?_⟩
        | intro h
  by_cases hk : k1 = 15
  · subst hk
    by_cases hn : l1.length ≤ 1
    · rw [show fitJ (.mk _ t1 m1 q1 l1 b1) = true by simp [fitJ, hn]]
      have hnI : (l1.length : Int) ≤ 1 := by omega
      refine ACalls.enter Tryz.func43 rfl rfl gk Tryz.ntmps43 fun X F => ?_
      repeat' first
        | refine AW.seq ?_
        | refine AW.block ?_
        | (refine AW.reg F ?_; go_simp)
        | (refine AW.condX ?_; go_simp)
        | (refine AW.skip ?_; go_simp)
        | (refine AW.exit ?_; go_simp)
        | (refine AW.ret ?_; go_simp)
        | refine ⟨fun h => ?_, fun h => ?_⟩
        | intro h
    rw [show fitJ (.mk _ t1 m1 q1 l1 b1) = false by simp [fitJ]; omega]; have hnI : ¬ (l1.length : Int) ≤ 1 := by omega
    refine ACalls.enter Tryz.func43 rfl rfl gk Tryz.ntmps43 fun X F => ?_
    repeat' first
      | refine AW.seq ?_
      | refine AW.block ?_
      | (refine AW.reg F ?_; go_simp)
      | (refine AW.condX ?_; go_simp)
      | (refine AW.skip ?_; go_simp)
      | (refine AW.exit ?_; go_simp)
      | (refine AW.ret ?_; go_simp)
      | refine ⟨fun h => ?_, fun h => ?_⟩
      | intro h
  by_cases hk : k1 = 16
  · subst hk
    by_cases hn : l1.length % 2 = 0
    · rw [show fitJ (.mk _ t1 m1 q1 l1 b1) = true by simp [fitJ, hn]]
      have hnI : (l1.length : Int).tmod 2 = 0 := by rw [Int.tmod_eq_emod_of_nonneg (by omega)]; omega
      refine ACalls.enter Tryz.func43 rfl rfl gk Tryz.ntmps43 fun X F => ?_
      repeat' first
        | refine AW.seq ?_
        | refine AW.block ?_
        | (refine AW.reg F ?_; go_simp)
        | (refine AW.condX ?_; go_simp)
        | (refine AW.skip ?_; go_simp)
        | (refine AW.exit ?_; go_simp)
        | (refine AW.ret ?_; go_simp)
        | refine ⟨fun h => ?_, fun h => ?_⟩
        | intro h
    rw [show fitJ (.mk _ t1 m1 q1 l1 b1) = false by simp [fitJ, hn]]; have hnI : ¬ (l1.length : Int).tmod 2 = 0 := by rw [Int.tmod_eq_emod_of_nonneg (by omega)]; omega
    refine ACalls.enter Tryz.func43 rfl rfl gk Tryz.ntmps43 fun X F => ?_
    repeat' first
      | refine AW.seq ?_
      | refine AW.block ?_
      | (refine AW.reg F ?_; go_simp)
      | (refine AW.condX ?_; go_simp)
      | (refine AW.skip ?_; go_simp)
      | (refine AW.exit ?_; go_simp)
      | (refine AW.ret ?_; go_simp)
      | refine ⟨fun h => ?_, fun h => ?_⟩
      | intro h
  by_cases hk : k1 = 17
  · subst hk
    all_goals
      by_cases hn : l1.length = 3
      · rw [show fitJ (.mk _ t1 m1 q1 l1 b1) = true by simp [fitJ, hn]]
        have hnI : (l1.length : Int) = 3 := by omega
        refine ACalls.enter Tryz.func43 rfl rfl gk Tryz.ntmps43 fun X F => ?_
        repeat' first
          | refine AW.seq ?_
          | refine AW.block ?_
          | (refine AW.reg F ?_; go_simp)
          | (refine AW.condX ?_; go_simp)
          | (refine AW.skip ?_; go_simp)
          | (refine AW.exit ?_; go_simp)
          | (refine AW.ret ?_; go_simp)
          | refine ⟨fun h => ?_, fun h => ?_⟩
          | intro h
      rw [show fitJ (.mk _ t1 m1 q1 l1 b1) = false by simp [fitJ, hn]]; have hnI : ¬ (l1.length : Int) = 3 := by omega
      refine ACalls.enter Tryz.func43 rfl rfl gk Tryz.ntmps43 fun X F => ?_
      repeat' first
        | refine AW.seq ?_
        | refine AW.block ?_
        | (refine AW.reg F ?_; go_simp)
        | (refine AW.condX ?_; go_simp)
        | (refine AW.skip ?_; go_simp)
        | (refine AW.exit ?_; go_simp)
        | (refine AW.ret ?_; go_simp)
        | refine ⟨fun h => ?_, fun h => ?_⟩
        | intro h
  by_cases hk : k1 = 18
  · subst hk
    by_cases hn : l1.length = 1
    · rw [show fitJ (.mk _ t1 m1 q1 l1 b1) = true by simp [fitJ, hn]]
      have hnI : (l1.length : Int) = 1 := by omega
      refine ACalls.enter Tryz.func43 rfl rfl gk Tryz.ntmps43 fun X F => ?_
      repeat' first
        | refine AW.seq ?_
        | refine AW.block ?_
        | (refine AW.reg F ?_; go_simp)
        | (refine AW.condX ?_; go_simp)
        | (refine AW.skip ?_; go_simp)
        | (refine AW.exit ?_; go_simp)
        | (refine AW.ret ?_; go_simp)
        | refine ⟨fun h => ?_, fun h => ?_⟩
        | intro h
    have hnI : ¬ (l1.length : Int) = 1 := by omega
    by_cases hn2 : l1.length = 2
    · rw [show fitJ (.mk _ t1 m1 q1 l1 b1) = true by simp [fitJ, hn2]]
      have hnJ : (l1.length : Int) = 2 := by omega
      refine ACalls.enter Tryz.func43 rfl rfl gk Tryz.ntmps43 fun X F => ?_
      repeat' first
        | refine AW.seq ?_
        | refine AW.block ?_
        | (refine AW.reg F ?_; go_simp)
        | (refine AW.condX ?_; go_simp)
        | (refine AW.skip ?_; go_simp)
        | (refine AW.exit ?_; go_simp)
        | (refine AW.ret ?_; go_simp)
        | refine ⟨fun h => ?_, fun h => ?_⟩
        | intro h
    rw [show fitJ (.mk _ t1 m1 q1 l1 b1) = false by simp [fitJ, hn, hn2]]; have hnJ : ¬ (l1.length : Int) = 2 := by omega
    refine ACalls.enter Tryz.func43 rfl rfl gk Tryz.ntmps43 fun X F => ?_
    repeat' first
      | refine AW.seq ?_
      | refine AW.block ?_
      | (refine AW.reg F ?_; go_simp)
      | (refine AW.condX ?_; go_simp)
      | (refine AW.skip ?_; go_simp)
      | (refine AW.exit ?_; go_simp)
      | (refine AW.ret ?_; go_simp)
      | refine ⟨fun h => ?_, fun h => ?_⟩
      | intro h
  have g1 : ¬ k1 = 1 := by omega
  have g2 : ¬ k1 = 2 := by omega
  have g3 : ¬ k1 = 3 := by omega
  have g4 : ¬ k1 = 4 := by omega
  have g5 : ¬ k1 = 5 := by omega
  have g6 : ¬ k1 = 6 := by omega
  have g7 : ¬ k1 = 7 := by omega
  have g8 : ¬ k1 = 8 := by omega
  have g9 : ¬ k1 = 9 := by omega
  have g10 : ¬ k1 = 10 := by omega
  have g11 : ¬ k1 = 11 := by omega
  have g12 : ¬ k1 = 12 := by omega
  have g13 : ¬ k1 = 13 := by omega
  have g14 : ¬ k1 = 14 := by omega
  have g15 : ¬ k1 = 15 := by omega
  have g16 : ¬ k1 = 16 := by omega
  have g17 : ¬ k1 = 17 := by omega
  have g18 : ¬ k1 = 18 := by omega
  have g26 : ¬ k1 = 26 := by omega
  have cb := sp_binds gk k1 t1 m1 q1 l1 b1 hs hb (by omega); refine ACalls.enter Tryz.func43 rfl rfl gk Tryz.ntmps43 fun X F => ?_
  repeat' first
    | refine AW.seq ?_
    | refine AW.block ?_
    | (refine AW.reg F ?_; go_simp)
    | (refine AW.condX ?_; go_simp)
    | (refine AW.skip ?_; go_simp)
    | (refine AW.exit ?_; go_simp)
    | (refine AW.ret ?_; go_simp)
    | (refine ⟨_, cb, ?_⟩; go_simp)
    | refine ⟨fun h => ?_, fun h => ?_⟩
    | intro h
end Go.Proofs.YtakncilicoefdaaGreatDoor
