/- Lemmas and contracts. Conditions: those that each lemma names. -/
import Derived.Test.YtakncilicoefdaaGreatDoorPz36
set_option maxRecDepth 100000
set_option maxHeartbeats 80000000
namespace Go.Proofs.YtakncilicoefdaaGreatDoor
open Go Go.RowKit Go.Proofs Th
set_option maxRecDepth 8000
attribute [local go_sem] sel
variable {G : World → CS → Prop}
def L0 (G : World → CS → Prop) : Prop := ∀ m e : Int, I64 m → ACalls Tryz.prog G 50 none [.agg [iI m, iI e]] (.ret (bI (right m e)) [])
def LS (G : World → CS → Prop) : Prop := ∀ s : ByteArray, s.size ≤ 140737488351232 → ACalls Tryz.prog G 63 none [sI s] (.ret (bI (Lib.validD s.data.toList)) [])
theorem WI (gk : GK G) (k1 : Int) (t1 : ByteArray) (m1 q1 : Int) (l1 : List NJ) (b1 : List ByteArray) (hs : t1.size ≤ 140737488351232) (hb : ∀ x ∈ b1, x.size ≤ 140737488351232) (hk0 : 18 < k1 ∧ k1 ≠ 26 ∨ k1 < 1) : ACalls Tryz.prog G 65 none [.agg (Al (.mk k1 t1 m1 q1 l1 b1)), iI l1.length] (.ret (bI (Ac (.mk k1 t1 m1 q1 l1 b1))) []) := by
 have c1 := MN gk t1 hs; have c2 := Rq gk t1 hs; have c3 := UE gk b1 hb; have c4 : ACalls Tryz.prog G 64 none [sI t1, .sl [[sI ⟨#[61]⟩], [sI ⟨#[124, 61]⟩], [sI ⟨#[43, 61]⟩], [sI ⟨#[45, 61]⟩], [sI ⟨#[42, 61]⟩], [sI ⟨#[47, 61]⟩], [sI ⟨#[47, 47, 61]⟩]] false] (.ret (bI (inB Ez t1)) []) := Pz gk Ez t1; by_cases hk : k1 = 19
 ·subst hk
  all_goals
   by_cases hn : l1.length = 3
   ·rw [show Ac (.mk _ t1 m1 q1 l1 b1) = Bf t1 by simp [Ac, hn]]
    have hnI : (l1.length : Int) = 3 := by omega
    refine ACalls.enter Tryz.func65 rfl rfl gk Tryz.ntmps65 fun X F => ?_
    repeat' first
     | refine AW.seq ?_
     | refine AW.block ?_
     | (refine AO F ?_; go_simp)
     | (refine AG ?_; go_simp)
     | (refine AW.skip ?_; go_simp)
     | (refine AW.exit ?_; go_simp)
     | (refine AW.ret ?_; go_simp)
     | (refine ⟨_, c1, ?_⟩; go_simp)
     | refine ⟨fun h => ?_, fun h => ?_⟩
     | intro h
   rw [show Ac (.mk _ t1 m1 q1 l1 b1) = false by simp [Ac, hn]]; have hnI : ¬ (l1.length : Int) = 3 := by omega
   refine ACalls.enter Tryz.func65 rfl rfl gk Tryz.ntmps65 fun X F => ?_
   repeat' first
    | refine AW.seq ?_
    | refine AW.block ?_
    | (refine AO F ?_; go_simp)
    | (refine AG ?_; go_simp)
    | (refine AW.skip ?_; go_simp)
    | (refine AW.exit ?_; go_simp)
    | (refine AW.ret ?_; go_simp)
    | (refine ⟨_, c1, ?_⟩; go_simp)
    | refine ⟨fun h => ?_, fun h => ?_⟩
    | intro h
 by_cases hk : k1 = 20
 ·subst hk
  all_goals
   by_cases hn : l1.length = 4
   ·rw [show Ac (.mk _ t1 m1 q1 l1 b1) = Bf t1 by simp [Ac, hn]]
    have hnI : (l1.length : Int) = 4 := by omega
    refine ACalls.enter Tryz.func65 rfl rfl gk Tryz.ntmps65 fun X F => ?_
    repeat' first
     | refine AW.seq ?_
     | refine AW.block ?_
     | (refine AO F ?_; go_simp)
     | (refine AG ?_; go_simp)
     | (refine AW.skip ?_; go_simp)
     | (refine AW.exit ?_; go_simp)
     | (refine AW.ret ?_; go_simp)
     | (refine ⟨_, c1, ?_⟩; go_simp)
     | refine ⟨fun h => ?_, fun h => ?_⟩
     | intro h
   rw [show Ac (.mk _ t1 m1 q1 l1 b1) = false by simp [Ac, hn]]; have hnI : ¬ (l1.length : Int) = 4 := by omega
   refine ACalls.enter Tryz.func65 rfl rfl gk Tryz.ntmps65 fun X F => ?_
   repeat' first
    | refine AW.seq ?_
    | refine AW.block ?_
    | (refine AO F ?_; go_simp)
    | (refine AG ?_; go_simp)
    | (refine AW.skip ?_; go_simp)
    | (refine AW.exit ?_; go_simp)
    | (refine AW.ret ?_; go_simp)
    | (refine ⟨_, c1, ?_⟩; go_simp)
    | refine ⟨fun h => ?_, fun h => ?_⟩
    | intro h
 by_cases hk : k1 = 21
 ·subst hk
  all_goals
   by_cases hn : l1.length = 2
   ·rw [show Ac (.mk _ t1 m1 q1 l1 b1) = Bf t1 by simp [Ac, hn]]
    have hnI : (l1.length : Int) = 2 := by omega
    refine ACalls.enter Tryz.func65 rfl rfl gk Tryz.ntmps65 fun X F => ?_
    repeat' first
     | refine AW.seq ?_
     | refine AW.block ?_
     | (refine AO F ?_; go_simp)
     | (refine AG ?_; go_simp)
     | (refine AW.skip ?_; go_simp)
     | (refine AW.exit ?_; go_simp)
     | (refine AW.ret ?_; go_simp)
     | (refine ⟨_, c1, ?_⟩; go_simp)
     | refine ⟨fun h => ?_, fun h => ?_⟩
     | intro h
   rw [show Ac (.mk _ t1 m1 q1 l1 b1) = false by simp [Ac, hn]]; have hnI : ¬ (l1.length : Int) = 2 := by omega
   refine ACalls.enter Tryz.func65 rfl rfl gk Tryz.ntmps65 fun X F => ?_
   repeat' first
    | refine AW.seq ?_
    | refine AW.block ?_
    | (refine AO F ?_; go_simp)
    | (refine AG ?_; go_simp)
    | (refine AW.skip ?_; go_simp)
    | (refine AW.exit ?_; go_simp)
    | (refine AW.ret ?_; go_simp)
    | (refine ⟨_, c1, ?_⟩; go_simp)
    | refine ⟨fun h => ?_, fun h => ?_⟩
    | intro h
 by_cases hk : k1 = 22
 ·subst hk
  all_goals
   by_cases hn : l1.length = 0
   ·rw [show Ac (.mk _ t1 m1 q1 l1 b1) = Bf t1 by simp [Ac, hn]]
    have hnI : (l1.length : Int) = 0 := by omega
    refine ACalls.enter Tryz.func65 rfl rfl gk Tryz.ntmps65 fun X F => ?_
    repeat' first
     | refine AW.seq ?_
     | refine AW.block ?_
     | (refine AO F ?_; go_simp)
     | (refine AG ?_; go_simp)
     | (refine AW.skip ?_; go_simp)
     | (refine AW.exit ?_; go_simp)
     | (refine AW.ret ?_; go_simp)
     | (refine ⟨_, c1, ?_⟩; go_simp)
     | refine ⟨fun h => ?_, fun h => ?_⟩
     | intro h
   rw [show Ac (.mk _ t1 m1 q1 l1 b1) = false by simp [Ac, hn]]; have hnI : ¬ (l1.length : Int) = 0 := by omega
   refine ACalls.enter Tryz.func65 rfl rfl gk Tryz.ntmps65 fun X F => ?_
   repeat' first
    | refine AW.seq ?_
    | refine AW.block ?_
    | (refine AO F ?_; go_simp)
    | (refine AG ?_; go_simp)
    | (refine AW.skip ?_; go_simp)
    | (refine AW.exit ?_; go_simp)
    | (refine AW.ret ?_; go_simp)
    | (refine ⟨_, c1, ?_⟩; go_simp)
    | refine ⟨fun h => ?_, fun h => ?_⟩
    | intro h
 by_cases hk : k1 = 23
 ·subst hk
  rw [show Ac (.mk _ t1 m1 q1 l1 b1) = B7 t1 by simp [Ac]]; refine ACalls.enter Tryz.func65 rfl rfl gk Tryz.ntmps65 fun X F => ?_
  repeat' first
   | refine AW.seq ?_
   | refine AW.block ?_
   | (refine AO F ?_; go_simp)
   | (refine AG ?_; go_simp)
   | (refine AW.skip ?_; go_simp)
   | (refine AW.exit ?_; go_simp)
   | (refine AW.ret ?_; go_simp)
   | (refine ⟨_, c2, ?_⟩; go_simp)
   | refine ⟨fun h => ?_, fun h => ?_⟩
   | intro h
 by_cases hk : k1 = 24
 ·subst hk
  all_goals
   by_cases hn : l1.length = 2
   ·rw [show Ac (.mk _ t1 m1 q1 l1 b1) = (B7 t1 && b1.all BO) by simp [Ac, hn]]
    have hnI : (l1.length : Int) = 2 := by omega
    cases hf : B7 t1
    ·rw [hf] at c2
     refine ACalls.enter Tryz.func65 rfl rfl gk Tryz.ntmps65 fun X F => ?_
     repeat' first
      | refine AW.seq ?_
      | refine AW.block ?_
      | (refine AO F ?_; go_simp)
      | (refine AG ?_; go_simp)
      | (refine AW.skip ?_; go_simp)
      | (refine AW.exit ?_; go_simp)
      | (refine AW.ret ?_; go_simp)
      | (refine ⟨_, c2, ?_⟩; go_simp)
      | refine ⟨fun h => ?_, fun h => ?_⟩
      | intro h
    rw [hf] at c2; rw [Bool.true_and]; refine ACalls.enter Tryz.func65 rfl rfl gk Tryz.ntmps65 fun X F => ?_
    repeat' first
     | refine AW.seq ?_
     | refine AW.block ?_
     | (refine AO F ?_; go_simp)
     | (refine AG ?_; go_simp)
     | (refine AW.skip ?_; go_simp)
     | (refine AW.exit ?_; go_simp)
     | (refine AW.ret ?_; go_simp)
     | (refine ⟨_, c2, ?_⟩; go_simp)
     | (refine ⟨_, c3, ?_⟩; go_simp)
     | refine ⟨fun h => ?_, fun h => ?_⟩
     | intro h
   rw [show Ac (.mk _ t1 m1 q1 l1 b1) = false by simp [Ac, hn]]; have hnI : ¬ (l1.length : Int) = 2 := by omega
   refine ACalls.enter Tryz.func65 rfl rfl gk Tryz.ntmps65 fun X F => ?_
   repeat' first
    | refine AW.seq ?_
    | refine AW.block ?_
    | (refine AO F ?_; go_simp)
    | (refine AG ?_; go_simp)
    | (refine AW.skip ?_; go_simp)
    | (refine AW.exit ?_; go_simp)
    | (refine AW.ret ?_; go_simp)
    | (refine ⟨_, c2, ?_⟩; go_simp)
    | (refine ⟨_, c3, ?_⟩; go_simp)
    | refine ⟨fun h => ?_, fun h => ?_⟩
    | intro h
 by_cases hk : k1 = 25
 ·subst hk
  all_goals
   by_cases hn : l1.length = 2
   ·rw [show Ac (.mk _ t1 m1 q1 l1 b1) = inB Ez t1 by simp [Ac, hn]]
    have hnI : (l1.length : Int) = 2 := by omega
    refine ACalls.enter Tryz.func65 rfl rfl gk Tryz.ntmps65 fun X F => ?_
    repeat' first
     | refine AW.seq ?_
     | refine AW.block ?_
     | (refine AO F ?_; go_simp)
     | (refine AG ?_; go_simp)
     | (refine AW.skip ?_; go_simp)
     | (refine AW.exit ?_; go_simp)
     | (refine AW.ret ?_; go_simp)
     | (refine ⟨_, c4, ?_⟩; go_simp)
     | refine ⟨fun h => ?_, fun h => ?_⟩
     | intro h
   rw [show Ac (.mk _ t1 m1 q1 l1 b1) = false by simp [Ac, hn]]; have hnI : ¬ (l1.length : Int) = 2 := by omega
   refine ACalls.enter Tryz.func65 rfl rfl gk Tryz.ntmps65 fun X F => ?_
   repeat' first
    | refine AW.seq ?_
    | refine AW.block ?_
    | (refine AO F ?_; go_simp)
    | (refine AG ?_; go_simp)
    | (refine AW.skip ?_; go_simp)
    | (refine AW.exit ?_; go_simp)
    | (refine AW.ret ?_; go_simp)
    | (refine ⟨_, c4, ?_⟩; go_simp)
    | refine ⟨fun h => ?_, fun h => ?_⟩
    | intro h
 rw [show Ac (.mk k1 t1 m1 q1 l1 b1) = false by simp only [Ac]; repeat rw [if_neg (by omega)]]; refine ACalls.enter Tryz.func65 rfl rfl gk Tryz.ntmps65 fun X F => ?_
 repeat' first
  | refine AW.seq ?_
  | refine AW.block ?_
  | (refine AO F ?_; go_simp)
  | (refine AG ?_; go_simp)
  | (refine AW.skip ?_; go_simp)
  | (refine AW.exit ?_; go_simp)
  | (refine AW.ret ?_; go_simp)
  | refine ⟨fun h => ?_, fun h => ?_⟩
  | intro h
theorem NE {l : List NJ} {k : Nat} (h : l.length ≤ k) : BU (l.drop k) = true := by rw [List.drop_eq_nil_of_le h]; rfl
theorem Uf {l : List NJ} {k : Nat} (h : k < l.length) : BU (l.drop k) = (decide (Av l[k] = 3) && BU (l.drop (k + 2))) := by
 rw [List.drop_eq_getElem_cons h]; cases hd : l.drop (k + 1) with
 | nil =>
  have : l.length ≤ k + 1 := List.drop_eq_nil_iff.1 hd; rw [NE (by omega), Bool.and_true]; rfl
 | cons y r =>
  have : l.drop (k + 2) = r := by rw [← List.drop_drop (i := 1) (j := k + 1), hd]; rfl
  rw [this]; rfl
theorem W4 (gk : GK G) (t1 : ByteArray) (m1 q1 : Int) (l1 : List NJ) (b1 : List ByteArray) : ACalls Tryz.prog G 43 none [.agg (Al (.mk 4 t1 m1 q1 l1 b1))] (.ret (bI (Ac (.mk 4 t1 m1 q1 l1 b1))) []) := by
 by_cases hlen : l1.length ≤ 140737488351232
 case neg => exact ⟨⟨_, Tryz.func43, rfl, rfl⟩, fun W S p us hG hSb hrc hrep => absurd (by have := It (i := 4) hrep rfl; rwa [BI] at this) hlen⟩
 rw [show Ac (.mk 4 t1 m1 q1 l1 b1) = (BU l1 && decide (3 ≤ l1.length) && decide (l1.length % 2 = 1)) by simp [Ac]]; obtain ⟨z, hz⟩ : ∃ z, BU l1 = z := ⟨_, rfl⟩
 obtain ⟨zz, hzz⟩ : ∃ zz, (BU l1 && decide (3 ≤ l1.length) && decide (l1.length % 2 = 1)) = zz := ⟨_, rfl⟩
 rw [hzz]; refine ACalls.enter Tryz.func43 rfl rfl gk Tryz.ntmps43 fun X F => ?_
 (iterate 3 apply Ar F;go_simp);(repeat apply Aq);apply Ab;(iterate 4 apply Ar F;go_simp;(repeat apply Aq);refine Af (by go_simp) ?_);apply Ar F;go_simp;(repeat apply Aq);refine At (by go_simp) ?_;apply Ar F;go_simp;(repeat apply Aq);apply Ab;(repeat apply Aq);refine Cb [1, 3, 4] [1000, 1] (by decide) (fun g t => ∃ k : Nat, t = mkS [(1, .ptr 1 0), (3, .im (iI l1.length)), (4, .im (iI k))] [(1000, .none), (1, .box ((Al (.mk 4 t1 m1 q1 l1 b1)).map .im))] ∧ g = l1.length - k ∧ k ≤ l1.length + 1 ∧ BU (l1.drop k) = z) (l1.length) ?_ ?_
 ·refine ⟨0, ?_, by omega, by omega, hz⟩
  go_simp
 rintro g t ⟨k, rfl, rfl, hk, hg⟩; by_cases hkt : k < l1.length
 ·have hkI : (k : Int) < (l1.length : Int) := by omega
  have hrk := rng ((k : Int) + 2) (by omega); rw [Uf hkt] at hg; obtain ⟨⟨k5, t5, m5, q5, l5, b5⟩, hx⟩ : ∃ x, l1[k] = x := ⟨_, rfl⟩
  skip
  apply Ar F; go_simp; (repeat apply Aq); refine At (by go_simp) ?_; apply As; go_simp; (repeat apply Aq); apply Ab; by_cases h3 : k5 = 3
  ·subst h3
   rw [show decide (Av l1[k] = 3) = true by rw [hx]; rfl, Bool.true_and] at hg; apply Ar F; go_simp; (repeat apply Aq); refine Af (by go_simp) ?_; apply As; go_simp; apply Ar F; go_simp; refine ⟨l1.length - (k + 2), by omega, k + 2, ?_, by omega, by omega, hg⟩; go_simp
  rw [show decide (Av l1[k] = 3) = false by rw [hx]; exact decide_eq_false h3, Bool.false_and] at hg; subst hg; have hq : zz = false := by rw [← hzz, hz]; rfl
  subst hq; apply Ar F; go_simp; (repeat apply Aq); refine At (by go_simp) ?_; apply Ar F; go_simp; apply Au; go_simp
 have hkI : ¬ (k : Int) < (l1.length : Int) := by omega
 rw [NE (by omega)] at hg; subst hg; apply Ar F; go_simp; (repeat apply Aq); refine Af (by go_simp) ?_; apply Ae; go_simp; by_cases hl : 3 ≤ l1.length
 ·have hlI : (3 : Int) ≤ (l1.length : Int) := by omega
  by_cases hm : l1.length % 2 = 1
  ·have hmI : (l1.length : Int).tmod 2 = 1 := by rw [Int.tmod_eq_emod_of_nonneg (by omega)]; omega
   have hq : zz = true := by rw [← hzz, hz]; simp [hl, hm]
   subst hq; apply Ar F; go_simp; apply Au; go_simp
  have hmI : ¬ (l1.length : Int).tmod 2 = 1 := by rw [Int.tmod_eq_emod_of_nonneg (by omega)]; omega
  have hq : zz = false := by rw [← hzz, hz]; simp [hm]
  subst hq; apply Ar F; go_simp; apply Au; go_simp
 have hlI : ¬ (3 : Int) ≤ (l1.length : Int) := by omega
 have hq : zz = false := by rw [← hzz, hz]; simp [hl]
 subst hq; apply Ar F; go_simp; apply Au; go_simp
theorem Wl (gk : GK G) (t1 : ByteArray) (m1 q1 : Int) (l1 : List NJ) (b1 : List ByteArray) : ACalls Tryz.prog G 43 none [.agg (Al (.mk 6 t1 m1 q1 l1 b1))] (.ret (bI (Ac (.mk 6 t1 m1 q1 l1 b1))) []) := by
 by_cases hlen : b1.length ≤ 140737488351232
 case neg => exact ⟨⟨_, Tryz.func43, rfl, rfl⟩, fun W S p us hG hSb hrc hrep => absurd (by have := It (i := 5) hrep rfl; rwa [List.length_map] at this) hlen⟩
 have hrb := rng ((b1.length : Int) + 1) (by omega); by_cases hn : l1.length = b1.length + 1
 case neg =>
  have hnI : ¬ (l1.length : Int) = (b1.length : Int) + 1 := by omega
  rw [show Ac (.mk 6 t1 m1 q1 l1 b1) = false by simp [Ac, hn]]; refine ACalls.enter Tryz.func43 rfl rfl gk Tryz.ntmps43 fun X F => ?_
  repeat' first
   | refine AW.seq ?_
   | refine AW.block ?_
   | (refine AA F [0, 1, 2, 3, 4, 5, 6, 7] [8, 9, 10, 11, 12, 13, 14, 15, 16, 17, 18, 19, 20, 21, 22, 23, 24, 25, 26, 27, 28, 29, 30, 31, 32, 33, 34, 35, 36] (by rfl) ?_; go_simp)
   | (refine A0 [8, 9, 10, 11, 12, 13, 14, 15] [16, 17, 18, 19, 20, 21, 22, 23, 24, 25, 26, 27, 28, 29, 30, 31, 32, 33, 34, 35, 36] ?_; go_simp)
   | (refine A0 [16, 17, 18, 19, 20, 21, 22, 23] [24, 25, 26, 27, 28, 29, 30, 31, 32, 33, 34, 35, 36] ?_; go_simp)
   | (refine A0 [24, 25, 26, 27, 28, 29, 30, 31] [32, 33, 34, 35, 36] ?_; go_simp)
   | (refine Ap ?_; go_simp)
   | (refine AO F ?_; go_simp)
   | (refine AG ?_; go_simp)
   | (refine AW.skip ?_; go_simp)
   | (refine AW.exit ?_; go_simp)
   | (refine AW.ret ?_; go_simp)
   | refine ⟨fun h => ?_, fun h => ?_⟩
   | intro h
 have hnI : (l1.length : Int) = (b1.length : Int) + 1 := by omega
 rcases b1 with _ | ⟨x, _ | ⟨y, _ | ⟨z, r⟩⟩⟩
 ·rw [show Ac (.mk 6 t1 m1 q1 l1 []) = false by simp [Ac]]
  have hnJ : (l1.length : Int) = 1 := by simpa using hnI
  refine ACalls.enter Tryz.func43 rfl rfl gk Tryz.ntmps43 fun X F => ?_
  repeat' first
   | refine AW.seq ?_
   | refine AW.block ?_
   | (refine AA F [0, 1, 2, 3, 4, 5, 6, 7] [8, 9, 10, 11, 12, 13, 14, 15, 16, 17, 18, 19, 20, 21, 22, 23, 24, 25, 26, 27, 28, 29, 30, 31, 32, 33, 34, 35, 36] (by rfl) ?_; go_simp)
   | (refine A0 [8, 9, 10, 11, 12, 13, 14, 15] [16, 17, 18, 19, 20, 21, 22, 23, 24, 25, 26, 27, 28, 29, 30, 31, 32, 33, 34, 35, 36] ?_; go_simp)
   | (refine A0 [16, 17, 18, 19, 20, 21, 22, 23] [24, 25, 26, 27, 28, 29, 30, 31, 32, 33, 34, 35, 36] ?_; go_simp)
   | (refine A0 [24, 25, 26, 27, 28, 29, 30, 31] [32, 33, 34, 35, 36] ?_; go_simp)
   | (refine Ap ?_; go_simp)
   | (refine AO F ?_; go_simp)
   | (refine AG ?_; go_simp)
   | (refine AW.skip ?_; go_simp)
   | (refine AW.exit ?_; go_simp)
   | (refine AW.ret ?_; go_simp)
   | refine ⟨fun h => ?_, fun h => ?_⟩
   | intro h
 ·have hnJ : (l1.length : Int) = 2 := by rw [hnI]; rfl
  have co : ACalls Tryz.prog G 64 none [sI x, .sl [[sI ⟨#[102, 114, 111, 109]⟩], [sI ⟨#[116, 111]⟩]] false] (.ret (bI (inB [fromB, toB] x)) []) := Pz gk [fromB, toB] x; rw [show Ac (.mk 6 t1 m1 q1 l1 [x]) = inB [fromB, toB] x by
   have : l1.length = 2 := by omega
   simp [Ac, this, inB, eq_comm]]
  generalize inB [fromB, toB] x = bb at co ⊢; cases bb
  all_goals
   refine ACalls.enter Tryz.func43 rfl rfl gk Tryz.ntmps43 fun X F => ?_
   repeat' first
    | refine AW.seq ?_
    | refine AW.block ?_
    | (refine AA F [0, 1, 2, 3, 4, 5, 6, 7] [8, 9, 10, 11, 12, 13, 14, 15, 16, 17, 18, 19, 20, 21, 22, 23, 24, 25, 26, 27, 28, 29, 30, 31, 32, 33, 34, 35, 36] (by rfl) ?_; go_simp)
    | (refine A0 [8, 9, 10, 11, 12, 13, 14, 15] [16, 17, 18, 19, 20, 21, 22, 23, 24, 25, 26, 27, 28, 29, 30, 31, 32, 33, 34, 35, 36] ?_; go_simp)
    | (refine A0 [16, 17, 18, 19, 20, 21, 22, 23] [24, 25, 26, 27, 28, 29, 30, 31, 32, 33, 34, 35, 36] ?_; go_simp)
    | (refine A0 [24, 25, 26, 27, 28, 29, 30, 31] [32, 33, 34, 35, 36] ?_; go_simp)
    | (refine Ap ?_; go_simp)
    | (refine AO F ?_; go_simp)
    | (refine AG ?_; go_simp)
    | (refine AW.skip ?_; go_simp)
    | (refine AW.exit ?_; go_simp)
    | (refine AW.ret ?_; go_simp)
    | (refine ⟨_, co, ?_⟩; go_simp)
    | refine ⟨fun h => ?_, fun h => ?_⟩
    | intro h
 ·have hnJ : (l1.length : Int) = 3 := by rw [hnI]; rfl
  rw [show Ac (.mk 6 t1 m1 q1 l1 [x, y]) = decide (x = fromB ∧ y = toB) by
   have : l1.length = 3 := by omega
   simp [Ac, this]]
  by_cases hx : x = ⟨#[102, 114, 111, 109]⟩
  ·by_cases hy : y = ⟨#[116, 111]⟩
   ·rw [decide_eq_true (show x = fromB ∧ y = toB from ⟨hx, hy⟩)]
    refine ACalls.enter Tryz.func43 rfl rfl gk Tryz.ntmps43 fun X F => ?_
    repeat' first
     | refine AW.seq ?_
     | refine AW.block ?_
     | (refine AA F [0, 1, 2, 3, 4, 5, 6, 7] [8, 9, 10, 11, 12, 13, 14, 15, 16, 17, 18, 19, 20, 21, 22, 23, 24, 25, 26, 27, 28, 29, 30, 31, 32, 33, 34, 35, 36] (by rfl) ?_; go_simp)
     | (refine A0 [8, 9, 10, 11, 12, 13, 14, 15] [16, 17, 18, 19, 20, 21, 22, 23, 24, 25, 26, 27, 28, 29, 30, 31, 32, 33, 34, 35, 36] ?_; go_simp)
     | (refine A0 [16, 17, 18, 19, 20, 21, 22, 23] [24, 25, 26, 27, 28, 29, 30, 31, 32, 33, 34, 35, 36] ?_; go_simp)
     | (refine A0 [24, 25, 26, 27, 28, 29, 30, 31] [32, 33, 34, 35, 36] ?_; go_simp)
     | (refine Ap ?_; go_simp)
     | (refine AO F ?_; go_simp)
     | (refine AG ?_; go_simp)
     | (refine AW.skip ?_; go_simp)
     | (refine AW.exit ?_; go_simp)
     | (refine AW.ret ?_; go_simp)
     | refine ⟨fun h => ?_, fun h => ?_⟩
     | intro h
   rw [decide_eq_false (show ¬ (x = fromB ∧ y = toB) from fun h => hy h.2)]; refine ACalls.enter Tryz.func43 rfl rfl gk Tryz.ntmps43 fun X F => ?_
   repeat' first
    | refine AW.seq ?_
    | refine AW.block ?_
    | (refine AA F [0, 1, 2, 3, 4, 5, 6, 7] [8, 9, 10, 11, 12, 13, 14, 15, 16, 17, 18, 19, 20, 21, 22, 23, 24, 25, 26, 27, 28, 29, 30, 31, 32, 33, 34, 35, 36] (by rfl) ?_; go_simp)
    | (refine A0 [8, 9, 10, 11, 12, 13, 14, 15] [16, 17, 18, 19, 20, 21, 22, 23, 24, 25, 26, 27, 28, 29, 30, 31, 32, 33, 34, 35, 36] ?_; go_simp)
    | (refine A0 [16, 17, 18, 19, 20, 21, 22, 23] [24, 25, 26, 27, 28, 29, 30, 31, 32, 33, 34, 35, 36] ?_; go_simp)
    | (refine A0 [24, 25, 26, 27, 28, 29, 30, 31] [32, 33, 34, 35, 36] ?_; go_simp)
    | (refine Ap ?_; go_simp)
    | (refine AO F ?_; go_simp)
    | (refine AG ?_; go_simp)
    | (refine AW.skip ?_; go_simp)
    | (refine AW.exit ?_; go_simp)
    | (refine AW.ret ?_; go_simp)
    | refine ⟨fun h => ?_, fun h => ?_⟩
    | intro h
  rw [decide_eq_false (show ¬ (x = fromB ∧ y = toB) from fun h => hx h.1)]; refine ACalls.enter Tryz.func43 rfl rfl gk Tryz.ntmps43 fun X F => ?_
  repeat' first
   | refine AW.seq ?_
   | refine AW.block ?_
   | (refine AA F [0, 1, 2, 3, 4, 5, 6, 7] [8, 9, 10, 11, 12, 13, 14, 15, 16, 17, 18, 19, 20, 21, 22, 23, 24, 25, 26, 27, 28, 29, 30, 31, 32, 33, 34, 35, 36] (by rfl) ?_; go_simp)
   | (refine A0 [8, 9, 10, 11, 12, 13, 14, 15] [16, 17, 18, 19, 20, 21, 22, 23, 24, 25, 26, 27, 28, 29, 30, 31, 32, 33, 34, 35, 36] ?_; go_simp)
   | (refine A0 [16, 17, 18, 19, 20, 21, 22, 23] [24, 25, 26, 27, 28, 29, 30, 31, 32, 33, 34, 35, 36] ?_; go_simp)
   | (refine A0 [24, 25, 26, 27, 28, 29, 30, 31] [32, 33, 34, 35, 36] ?_; go_simp)
   | (refine Ap ?_; go_simp)
   | (refine AO F ?_; go_simp)
   | (refine AG ?_; go_simp)
   | (refine AW.skip ?_; go_simp)
   | (refine AW.exit ?_; go_simp)
   | (refine AW.ret ?_; go_simp)
   | refine ⟨fun h => ?_, fun h => ?_⟩
   | intro h
 rw [show Ac (.mk 6 t1 m1 q1 l1 (x :: y :: z :: r)) = false by simp [Ac]]; have hn2 : ¬ (l1.length : Int) = 2 := by simp at hnI; omega
 have hn3 : ¬ (l1.length : Int) = 3 := by simp at hnI; omega
 have hrr := rng ((r.length : Int) + 1 + 1 + 1 + 1) (by simp at hrb; omega); refine ACalls.enter Tryz.func43 rfl rfl gk Tryz.ntmps43 fun X F => ?_
 repeat' first
  | refine AW.seq ?_
  | refine AW.block ?_
  | (refine AA F [0, 1, 2, 3, 4, 5, 6, 7] [8, 9, 10, 11, 12, 13, 14, 15, 16, 17, 18, 19, 20, 21, 22, 23, 24, 25, 26, 27, 28, 29, 30, 31, 32, 33, 34, 35, 36] (by rfl) ?_; go_simp)
  | (refine A0 [8, 9, 10, 11, 12, 13, 14, 15] [16, 17, 18, 19, 20, 21, 22, 23, 24, 25, 26, 27, 28, 29, 30, 31, 32, 33, 34, 35, 36] ?_; go_simp)
  | (refine A0 [16, 17, 18, 19, 20, 21, 22, 23] [24, 25, 26, 27, 28, 29, 30, 31, 32, 33, 34, 35, 36] ?_; go_simp)
  | (refine A0 [24, 25, 26, 27, 28, 29, 30, 31] [32, 33, 34, 35, 36] ?_; go_simp)
  | (refine Ap ?_; go_simp)
  | (refine AO F ?_; go_simp)
  | (refine AG ?_; go_simp)
  | (refine AW.skip ?_; go_simp)
  | (refine AW.exit ?_; go_simp)
  | (refine AW.ret ?_; go_simp)
  | refine ⟨fun h => ?_, fun h => ?_⟩
  | intro h
theorem YO (gk : GK G) (hN : L0 G) (hQ : LS G) (n : NJ) (hn : FE n) : ACalls Tryz.prog G 43 none [.agg (Al n)] (.ret (bI (Ac n)) []) := by
 obtain ⟨k1, t1, m1, q1, l1, b1⟩ := n; obtain ⟨_, hm, _, hs, hb, _⟩ := hn; have cn := hN m1 q1 hm; have cq := hQ t1 hs; have co : ACalls Tryz.prog G 64 none [sI t1, .sl [[sI ⟨#[61, 61]⟩], [sI ⟨#[33, 61]⟩], [sI ⟨#[60]⟩], [sI ⟨#[60, 61]⟩], [sI ⟨#[62]⟩], [sI ⟨#[62, 61]⟩], [sI ⟨#[43]⟩], [sI ⟨#[45]⟩], [sI ⟨#[42]⟩], [sI ⟨#[47]⟩], [sI ⟨#[37]⟩]] false] (.ret (bI (inB C6 t1)) []) := Pz gk C6 t1; by_cases hk : k1 = 1 ∨ k1 = 26
 ·rcases hk with rfl | rfl
  all_goals
   by_cases hn : l1.length = 0
   ·rw [show Ac (.mk _ t1 m1 q1 l1 b1) = true by simp [Ac, hn]]
    have hnI : (l1.length : Int) = 0 := by omega
    refine ACalls.enter Tryz.func43 rfl rfl gk Tryz.ntmps43 fun X F => ?_
    repeat' first
     | refine AW.seq ?_
     | refine AW.block ?_
     | (refine AO F ?_; go_simp)
     | (refine AG ?_; go_simp)
     | (refine AW.skip ?_; go_simp)
     | (refine AW.exit ?_; go_simp)
     | (refine AW.ret ?_; go_simp)
     | refine ⟨fun h => ?_, fun h => ?_⟩
     | intro h
   rw [show Ac (.mk _ t1 m1 q1 l1 b1) = false by simp [Ac, hn]]; have hnI : ¬ (l1.length : Int) = 0 := by omega
   refine ACalls.enter Tryz.func43 rfl rfl gk Tryz.ntmps43 fun X F => ?_
   repeat' first
    | refine AW.seq ?_
    | refine AW.block ?_
    | (refine AO F ?_; go_simp)
    | (refine AG ?_; go_simp)
    | (refine AW.skip ?_; go_simp)
    | (refine AW.exit ?_; go_simp)
    | (refine AW.ret ?_; go_simp)
    | refine ⟨fun h => ?_, fun h => ?_⟩
    | intro h
 by_cases hk : k1 = 2
 ·subst hk
  all_goals
   by_cases hn : l1.length = 0
   ·rw [show Ac (.mk _ t1 m1 q1 l1 b1) = (right m1 q1 && decide (0 ≤ m1)) by simp [Ac, hn]]
    have hnI : (l1.length : Int) = 0 := by omega
    cases hr : right m1 q1
    ·rw [hr] at cn
     refine ACalls.enter Tryz.func43 rfl rfl gk Tryz.ntmps43 fun X F => ?_
     repeat' first
      | refine AW.seq ?_
      | refine AW.block ?_
      | (refine AO F ?_; go_simp)
      | (refine AG ?_; go_simp)
      | (refine AW.skip ?_; go_simp)
      | (refine AW.exit ?_; go_simp)
      | (refine AW.ret ?_; go_simp)
      | (refine ⟨_, cn, ?_⟩; go_simp)
      | refine ⟨fun h => ?_, fun h => ?_⟩
      | intro h
    rw [hr] at cn; rw [Bool.true_and]; by_cases h0 : 0 ≤ m1
    ·rw [decide_eq_true h0]
     refine ACalls.enter Tryz.func43 rfl rfl gk Tryz.ntmps43 fun X F => ?_
     repeat' first
      | refine AW.seq ?_
      | refine AW.block ?_
      | (refine AO F ?_; go_simp)
      | (refine AG ?_; go_simp)
      | (refine AW.skip ?_; go_simp)
      | (refine AW.exit ?_; go_simp)
      | (refine AW.ret ?_; go_simp)
      | (refine ⟨_, cn, ?_⟩; go_simp)
      | refine ⟨fun h => ?_, fun h => ?_⟩
      | intro h
    rw [decide_eq_false h0]; refine ACalls.enter Tryz.func43 rfl rfl gk Tryz.ntmps43 fun X F => ?_
    repeat' first
     | refine AW.seq ?_
     | refine AW.block ?_
     | (refine AO F ?_; go_simp)
     | (refine AG ?_; go_simp)
     | (refine AW.skip ?_; go_simp)
     | (refine AW.exit ?_; go_simp)
     | (refine AW.ret ?_; go_simp)
     | (refine ⟨_, cn, ?_⟩; go_simp)
     | refine ⟨fun h => ?_, fun h => ?_⟩
     | intro h
   rw [show Ac (.mk _ t1 m1 q1 l1 b1) = false by simp [Ac, hn]]; have hnI : ¬ (l1.length : Int) = 0 := by omega
   refine ACalls.enter Tryz.func43 rfl rfl gk Tryz.ntmps43 fun X F => ?_
   repeat' first
    | refine AW.seq ?_
    | refine AW.block ?_
    | (refine AO F ?_; go_simp)
    | (refine AG ?_; go_simp)
    | (refine AW.skip ?_; go_simp)
    | (refine AW.exit ?_; go_simp)
    | (refine AW.ret ?_; go_simp)
    | (refine ⟨_, cn, ?_⟩; go_simp)
    | refine ⟨fun h => ?_, fun h => ?_⟩
    | intro h
 by_cases hk : k1 = 3
 ·subst hk
  all_goals
   by_cases hn : l1.length = 0
   ·rw [show Ac (.mk _ t1 m1 q1 l1 b1) = Lib.validD t1.data.toList by simp [Ac, hn]]
    have hnI : (l1.length : Int) = 0 := by omega
    refine ACalls.enter Tryz.func43 rfl rfl gk Tryz.ntmps43 fun X F => ?_
    repeat' first
     | refine AW.seq ?_
     | refine AW.block ?_
     | (refine AO F ?_; go_simp)
     | (refine AG ?_; go_simp)
     | (refine AW.skip ?_; go_simp)
     | (refine AW.exit ?_; go_simp)
     | (refine AW.ret ?_; go_simp)
     | (refine ⟨_, cq, ?_⟩; go_simp)
     | refine ⟨fun h => ?_, fun h => ?_⟩
     | intro h
   rw [show Ac (.mk _ t1 m1 q1 l1 b1) = false by simp [Ac, hn]]; have hnI : ¬ (l1.length : Int) = 0 := by omega
   refine ACalls.enter Tryz.func43 rfl rfl gk Tryz.ntmps43 fun X F => ?_
   repeat' first
    | refine AW.seq ?_
    | refine AW.block ?_
    | (refine AO F ?_; go_simp)
    | (refine AG ?_; go_simp)
    | (refine AW.skip ?_; go_simp)
    | (refine AW.exit ?_; go_simp)
    | (refine AW.ret ?_; go_simp)
    | (refine ⟨_, cq, ?_⟩; go_simp)
    | refine ⟨fun h => ?_, fun h => ?_⟩
    | intro h
 by_cases hk : k1 = 4
 ·subst hk
  exact W4 gk t1 m1 q1 l1 b1
 by_cases hk : k1 = 5 ∨ k1 = 8 ∨ k1 = 9 ∨ k1 = 11 ∨ k1 = 12 ∨ k1 = 13
 ·rcases hk with rfl | rfl | rfl | rfl | rfl | rfl
  all_goals
   by_cases hn : l1.length = 2
   ·rw [show Ac (.mk _ t1 m1 q1 l1 b1) = true by simp [Ac, hn]]
    have hnI : (l1.length : Int) = 2 := by omega
    refine ACalls.enter Tryz.func43 rfl rfl gk Tryz.ntmps43 fun X F => ?_
    repeat' first
     | refine AW.seq ?_
     | refine AW.block ?_
     | (refine AO F ?_; go_simp)
     | (refine AG ?_; go_simp)
     | (refine AW.skip ?_; go_simp)
     | (refine AW.exit ?_; go_simp)
     | (refine AW.ret ?_; go_simp)
     | refine ⟨fun h => ?_, fun h => ?_⟩
     | intro h
   rw [show Ac (.mk _ t1 m1 q1 l1 b1) = false by simp [Ac, hn]]; have hnI : ¬ (l1.length : Int) = 2 := by omega
   refine ACalls.enter Tryz.func43 rfl rfl gk Tryz.ntmps43 fun X F => ?_
   repeat' first
    | refine AW.seq ?_
    | refine AW.block ?_
    | (refine AO F ?_; go_simp)
    | (refine AG ?_; go_simp)
    | (refine AW.skip ?_; go_simp)
    | (refine AW.exit ?_; go_simp)
    | (refine AW.ret ?_; go_simp)
    | refine ⟨fun h => ?_, fun h => ?_⟩
    | intro h
 by_cases hk : k1 = 6
 ·subst hk
  exact Wl gk t1 m1 q1 l1 b1
 by_cases hk : k1 = 7 ∨ k1 = 14
 ·rcases hk with rfl | rfl
  all_goals
   by_cases hn : l1.length = 1
   ·rw [show Ac (.mk _ t1 m1 q1 l1 b1) = true by simp [Ac, hn]]
    have hnI : (l1.length : Int) = 1 := by omega
    refine ACalls.enter Tryz.func43 rfl rfl gk Tryz.ntmps43 fun X F => ?_
    repeat' first
     | refine AW.seq ?_
     | refine AW.block ?_
     | (refine AO F ?_; go_simp)
     | (refine AG ?_; go_simp)
     | (refine AW.skip ?_; go_simp)
     | (refine AW.exit ?_; go_simp)
     | (refine AW.ret ?_; go_simp)
     | refine ⟨fun h => ?_, fun h => ?_⟩
     | intro h
   rw [show Ac (.mk _ t1 m1 q1 l1 b1) = false by simp [Ac, hn]]; have hnI : ¬ (l1.length : Int) = 1 := by omega
   refine ACalls.enter Tryz.func43 rfl rfl gk Tryz.ntmps43 fun X F => ?_
   repeat' first
    | refine AW.seq ?_
    | refine AW.block ?_
    | (refine AO F ?_; go_simp)
    | (refine AG ?_; go_simp)
    | (refine AW.skip ?_; go_simp)
    | (refine AW.exit ?_; go_simp)
    | (refine AW.ret ?_; go_simp)
    | refine ⟨fun h => ?_, fun h => ?_⟩
    | intro h
 by_cases hk : k1 = 10
 ·subst hk
  all_goals
   by_cases hn : l1.length = 2
   ·rw [show Ac (.mk _ t1 m1 q1 l1 b1) = inB C6 t1 by simp [Ac, hn]]
    have hnI : (l1.length : Int) = 2 := by omega
    refine ACalls.enter Tryz.func43 rfl rfl gk Tryz.ntmps43 fun X F => ?_
    repeat' first
     | refine AW.seq ?_
     | refine AW.block ?_
     | (refine AO F ?_; go_simp)
     | (refine AG ?_; go_simp)
     | (refine AW.skip ?_; go_simp)
     | (refine AW.exit ?_; go_simp)
     | (refine AW.ret ?_; go_simp)
     | (refine ⟨_, co, ?_⟩; go_simp)
     | refine ⟨fun h => ?_, fun h => ?_⟩
     | intro h
   rw [show Ac (.mk _ t1 m1 q1 l1 b1) = false by simp [Ac, hn]]; have hnI : ¬ (l1.length : Int) = 2 := by omega
   refine ACalls.enter Tryz.func43 rfl rfl gk Tryz.ntmps43 fun X F => ?_
   repeat' first
    | refine AW.seq ?_
    | refine AW.block ?_
    | (refine AO F ?_; go_simp)
    | (refine AG ?_; go_simp)
    | (refine AW.skip ?_; go_simp)
    | (refine AW.exit ?_; go_simp)
    | (refine AW.ret ?_; go_simp)
    | (refine ⟨_, co, ?_⟩; go_simp)
    | refine ⟨fun h => ?_, fun h => ?_⟩
    | intro h
 by_cases hk : k1 = 15
 ·subst hk
  by_cases hn : l1.length ≤ 1
  ·rw [show Ac (.mk _ t1 m1 q1 l1 b1) = true by simp [Ac, hn]]
   have hnI : (l1.length : Int) ≤ 1 := by omega
   refine ACalls.enter Tryz.func43 rfl rfl gk Tryz.ntmps43 fun X F => ?_
   repeat' first
    | refine AW.seq ?_
    | refine AW.block ?_
    | (refine AO F ?_; go_simp)
    | (refine AG ?_; go_simp)
    | (refine AW.skip ?_; go_simp)
    | (refine AW.exit ?_; go_simp)
    | (refine AW.ret ?_; go_simp)
    | refine ⟨fun h => ?_, fun h => ?_⟩
    | intro h
  rw [show Ac (.mk _ t1 m1 q1 l1 b1) = false by simp [Ac]; omega]; have hnI : ¬ (l1.length : Int) ≤ 1 := by omega
  refine ACalls.enter Tryz.func43 rfl rfl gk Tryz.ntmps43 fun X F => ?_
  repeat' first
   | refine AW.seq ?_
   | refine AW.block ?_
   | (refine AO F ?_; go_simp)
   | (refine AG ?_; go_simp)
   | (refine AW.skip ?_; go_simp)
   | (refine AW.exit ?_; go_simp)
   | (refine AW.ret ?_; go_simp)
   | refine ⟨fun h => ?_, fun h => ?_⟩
   | intro h
 by_cases hk : k1 = 16
 ·subst hk
  by_cases hn : l1.length % 2 = 0
  ·rw [show Ac (.mk _ t1 m1 q1 l1 b1) = true by simp [Ac, hn]]
   have hnI : (l1.length : Int).tmod 2 = 0 := by rw [Int.tmod_eq_emod_of_nonneg (by omega)]; omega
   refine ACalls.enter Tryz.func43 rfl rfl gk Tryz.ntmps43 fun X F => ?_
   repeat' first
    | refine AW.seq ?_
    | refine AW.block ?_
    | (refine AO F ?_; go_simp)
    | (refine AG ?_; go_simp)
    | (refine AW.skip ?_; go_simp)
    | (refine AW.exit ?_; go_simp)
    | (refine AW.ret ?_; go_simp)
    | refine ⟨fun h => ?_, fun h => ?_⟩
    | intro h
  rw [show Ac (.mk _ t1 m1 q1 l1 b1) = false by simp [Ac, hn]]; have hnI : ¬ (l1.length : Int).tmod 2 = 0 := by rw [Int.tmod_eq_emod_of_nonneg (by omega)]; omega
  refine ACalls.enter Tryz.func43 rfl rfl gk Tryz.ntmps43 fun X F => ?_
  repeat' first
   | refine AW.seq ?_
   | refine AW.block ?_
   | (refine AO F ?_; go_simp)
   | (refine AG ?_; go_simp)
   | (refine AW.skip ?_; go_simp)
   | (refine AW.exit ?_; go_simp)
   | (refine AW.ret ?_; go_simp)
   | refine ⟨fun h => ?_, fun h => ?_⟩
   | intro h
 by_cases hk : k1 = 17
 ·subst hk
  all_goals
   by_cases hn : l1.length = 3
   ·rw [show Ac (.mk _ t1 m1 q1 l1 b1) = true by simp [Ac, hn]]
    have hnI : (l1.length : Int) = 3 := by omega
    refine ACalls.enter Tryz.func43 rfl rfl gk Tryz.ntmps43 fun X F => ?_
    repeat' first
     | refine AW.seq ?_
     | refine AW.block ?_
     | (refine AO F ?_; go_simp)
     | (refine AG ?_; go_simp)
     | (refine AW.skip ?_; go_simp)
     | (refine AW.exit ?_; go_simp)
     | (refine AW.ret ?_; go_simp)
     | refine ⟨fun h => ?_, fun h => ?_⟩
     | intro h
   rw [show Ac (.mk _ t1 m1 q1 l1 b1) = false by simp [Ac, hn]]; have hnI : ¬ (l1.length : Int) = 3 := by omega
   refine ACalls.enter Tryz.func43 rfl rfl gk Tryz.ntmps43 fun X F => ?_
   repeat' first
    | refine AW.seq ?_
    | refine AW.block ?_
    | (refine AO F ?_; go_simp)
    | (refine AG ?_; go_simp)
    | (refine AW.skip ?_; go_simp)
    | (refine AW.exit ?_; go_simp)
    | (refine AW.ret ?_; go_simp)
    | refine ⟨fun h => ?_, fun h => ?_⟩
    | intro h
 by_cases hk : k1 = 18
 ·subst hk
  by_cases hn : l1.length = 1
  ·rw [show Ac (.mk _ t1 m1 q1 l1 b1) = true by simp [Ac, hn]]
   have hnI : (l1.length : Int) = 1 := by omega
   refine ACalls.enter Tryz.func43 rfl rfl gk Tryz.ntmps43 fun X F => ?_
   repeat' first
    | refine AW.seq ?_
    | refine AW.block ?_
    | (refine AO F ?_; go_simp)
    | (refine AG ?_; go_simp)
    | (refine AW.skip ?_; go_simp)
    | (refine AW.exit ?_; go_simp)
    | (refine AW.ret ?_; go_simp)
    | refine ⟨fun h => ?_, fun h => ?_⟩
    | intro h
  have hnI : ¬ (l1.length : Int) = 1 := by omega
  by_cases hn2 : l1.length = 2
  ·rw [show Ac (.mk _ t1 m1 q1 l1 b1) = true by simp [Ac, hn2]]
   have hnJ : (l1.length : Int) = 2 := by omega
   refine ACalls.enter Tryz.func43 rfl rfl gk Tryz.ntmps43 fun X F => ?_
   repeat' first
    | refine AW.seq ?_
    | refine AW.block ?_
    | (refine AO F ?_; go_simp)
    | (refine AG ?_; go_simp)
    | (refine AW.skip ?_; go_simp)
    | (refine AW.exit ?_; go_simp)
    | (refine AW.ret ?_; go_simp)
    | refine ⟨fun h => ?_, fun h => ?_⟩
    | intro h
  rw [show Ac (.mk _ t1 m1 q1 l1 b1) = false by simp [Ac, hn, hn2]]; have hnJ : ¬ (l1.length : Int) = 2 := by omega
  refine ACalls.enter Tryz.func43 rfl rfl gk Tryz.ntmps43 fun X F => ?_
  repeat' first
   | refine AW.seq ?_
   | refine AW.block ?_
   | (refine AO F ?_; go_simp)
   | (refine AG ?_; go_simp)
   | (refine AW.skip ?_; go_simp)
   | (refine AW.exit ?_; go_simp)
   | (refine AW.ret ?_; go_simp)
   | refine ⟨fun h => ?_, fun h => ?_⟩
   | intro h
 have g1 : ¬ k1 = 1 := by omega
 have g2 : ¬ k1 = 2 := by omega
 have g3 : ¬ k1 = 3 := by omega
 have g4 : ¬ k1 = 4 := by omega
 have g5 : ¬ k1 = 5 := by omega
 have g6 : ¬ k1 = 6 := by omega
 have g7 : ¬ k1 = 7 := by omega
 have g8 : ¬ k1 = 8 := by omega
 have g9 : ¬ k1 = 9 := by omega
 have g10 : ¬ k1 = 10 := by omega
 have g11 : ¬ k1 = 11 := by omega
 have g12 : ¬ k1 = 12 := by omega
 have g13 : ¬ k1 = 13 := by omega
 have g14 : ¬ k1 = 14 := by omega
 have g15 : ¬ k1 = 15 := by omega
 have g16 : ¬ k1 = 16 := by omega
 have g17 : ¬ k1 = 17 := by omega
 have g18 : ¬ k1 = 18 := by omega
 have g26 : ¬ k1 = 26 := by omega
 have cb := WI gk k1 t1 m1 q1 l1 b1 hs hb (by omega); refine ACalls.enter Tryz.func43 rfl rfl gk Tryz.ntmps43 fun X F => ?_
 repeat' first
  | refine AW.seq ?_
  | refine AW.block ?_
  | (refine AO F ?_; go_simp)
  | (refine AG ?_; go_simp)
  | (refine AW.skip ?_; go_simp)
  | (refine AW.exit ?_; go_simp)
  | (refine AW.ret ?_; go_simp)
  | (refine ⟨_, cb, ?_⟩; go_simp)
  | refine ⟨fun h => ?_, fun h => ?_⟩
  | intro h
open Go Go.RowKit Go.Proofs Th
set_option maxRecDepth 8000
attribute [local go_sem] zeroM CT AGo
theorem Se (s : ByteArray) (hs : s.size ≤ 50000) (he : (Bp (toL s)).2.2 ≠ 0) : ACalls Tryz.prog GX 15 none [sI s] (.ret (.tup [.agg (Al EA), iI (Bp (toL s)).2.1, iI (Bp (toL s)).2.2]) []) := by
 have gk := gkX; have cs := L6 s hs; obtain ⟨⟨l, x, ee⟩, hq⟩ : ∃ q, Bp (toL s) = q := ⟨_, rfl⟩
 rw [hq] at cs he ⊢; dsimp only at cs he ⊢; have he2 : ¬ (ee : Int) = 0 := by omega
 clear hq; refine ACalls.enter Tryz.func15 rfl rfl gk Tryz.ntmps15 fun X F => ?_
 apply Ar F; go_simp; apply Ar F; go_simp; refine ⟨_, cs, ?_⟩; go_simp; apply Ar F; go_simp; (repeat apply Aq); refine At (by go_simp) ?_; (repeat apply Aq); refine Ad F [0, 1, 2, 3, 4, 5] [(1, 3), (2, 3), (2, 4)] mixed (by kernel_rfl) ?_; go_simp; apply Au; go_simp
def K0 : PR NJ → List IV
 | .bad a e => [.agg (Al EA), iI a, iI e]
 | .ok n _ => if shJ 48 n = true then [.agg (Al n), iI 0, iI 0] else [.agg (Al EA), iI 0, iI 31]
def S8 (p2 p3 p4 : Nat) (res : ARes) : AExit → ASt → Prop
 | .normal, s => ML Tryz.prog Tryz.f15 res .normal s
 | .ret, s => ML Tryz.prog Tryz.f15 res .ret s
 | .panic x, s => ∃ (a e : Nat) (u0 u1 u2 u3 u4 u5 v w : IV), x = C1 a e ∧ s.fr 8 = .pin 2 p2 ∧ s.fr 9 = .pin 3 p3 ∧ s.fr 7 = .pin 4 p4 ∧ s.fr 2 = .ptr 2 0 ∧ s.fr 3 = .ptr 3 0 ∧ s.fr 4 = .ptr 4 0 ∧ s.st 2 = .box ([u0, u1, u2, u3, u4, u5].map .im) ∧ s.st 3 = .box ([v].map .im) ∧ s.st 4 = .box ([w].map .im) ∧ res = .ret (.tup [.agg (Al EA), iI a, iI e]) []
 | _, _ => False
attribute [local go_sem] S8 K0
theorem Ll (s : ByteArray) (hs : s.size ≤ 50000) (he : (Bp (toL s)).2.2 = 0) (f : Nat) (r : PR NJ) (h : AY f (B5 (toL s) 0) .whole 0 = some r) : ACalls Tryz.prog GX 15 none [sI s] (.ret (.tup (K0 r)) []) := by
 have cs := L6 s hs; have cw := WP _ (On (toL s) 0 (by rw [C7]; omega) (by rw [C7]; omega)) f r h; unfold A5 at cw; simp only [B5] at cw; rw [C7] at cw; clear h; obtain ⟨⟨l, x, ee⟩, hq⟩ : ∃ q, Bp (toL s) = q := ⟨_, rfl⟩
 rw [hq] at cs he cw; dsimp only at cs he cw; subst he; clear hq; obtain ⟨res, hres⟩ : ∃ res, ARes.ret (.tup (K0 r)) [] = res := ⟨_, rfl⟩
 rw [hres]; refine N7 Tryz.func15 rfl rfl gkX Tryz.ntmps15 fun X W0 S0 p F hW0 hS0 hR hrcv hdfr => ?_
 refine AWg.seq ?_; apply Ar F; go_simp; refine AWg.seq ?_; apply Ar F; go_simp; refine ⟨_, cs, ?_⟩; go_simp; refine AWg.seq ?_; apply Ar F; go_simp; refine Af (by go_simp) ?_; apply As; go_simp; intro a W hRel0; obtain ⟨E, S, hRel⟩ := hRel0; have e2 := C5 hRel (x := .tmp 2) (b := 2) (off := 0) rfl; have e3 := C5 hRel (x := .tmp 3) (b := 3) (off := 0) rfl; have e4 := C5 hRel (x := .tmp 4) (b := 4) (off := 0) rfl; refine wp_seq ?_; refine wp_region ?_; rw [show List.range _ = [0, 1] from rfl]; have h18 : 18 < X.N := Nat.lt_of_lt_of_le (by decide) F.n; have e18 : ∀ (v : Value) (d : List Deferred), ({ tmps := a.tmps.setIfInBounds 18 v, defers := d } : Act).eval (.tmp 18) = v := fun v d => by
  simp [Act.eval, Array.getD, hRel.sz, h18]
 simp [wpOps, Region.wanted, Oper.wp, execOp, Oper.upon, e2, e3, e4, Instr.makeFunc, resolve, Act.put, e18, Deferred.ofValue]; refine Or.inl ?_; refine Or.inl ?_; have hX0 : a.defers = [] := hRel.df.trans hdfr; rw [hX0]; obtain ⟨fnv, hfnv⟩ : ∃ v, Value.func (Fn.func 24) #[] #[Value.pointer (some ⟨E.box 2, 0, none⟩), Value.pointer (some ⟨E.box 3, 0, none⟩), Value.pointer (some ⟨E.box 4, 0, none⟩)] = v := ⟨_, rfl⟩
 rw [hfnv]; have r1 := (hRel.put 18 h18 (c := .junk) (u := fnv) trivial).with [⟨.fn (.func 24) #[Value.pointer (some ⟨E.box 2, 0, none⟩), Value.pointer (some ⟨E.box 3, 0, none⟩), Value.pointer (some ⟨E.box 4, 0, none⟩)], #[]⟩]; have r2 := ((r1.pin 8 2 ⟨_, rfl⟩).pin 9 3 ⟨_, rfl⟩).pin 7 4 ⟨_, rfl⟩; clear r1; obtain ⟨p2, hp2⟩ : ∃ p2, E.box 2 = p2 := ⟨_, rfl⟩
 obtain ⟨p3, hp3⟩ : ∃ p3, E.box 3 = p3 := ⟨_, rfl⟩
 obtain ⟨p4, hp4⟩ : ∃ p4, E.box 4 = p4 := ⟨_, rfl⟩
 rw [hp2, hp3, hp4] at r2 ⊢; clear e2 e3 e4 e18 hRel hp2 hp3 hp4; have hXX : (X.with [⟨.fn (.func 24) #[Value.pointer (some ⟨p2, 0, none⟩), Value.pointer (some ⟨p3, 0, none⟩), Value.pointer (some ⟨p4, 0, none⟩)], #[]⟩]).dfr = [⟨.fn (.func 24) #[Value.pointer (some ⟨p2, 0, none⟩), Value.pointer (some ⟨p3, 0, none⟩), Value.pointer (some ⟨p4, 0, none⟩)], #[]⟩] := rfl; have F2 : Fit (X.with [⟨.fn (.func 24) #[Value.pointer (some ⟨p2, 0, none⟩), Value.pointer (some ⟨p3, 0, none⟩), Value.pointer (some ⟨p4, 0, none⟩)], #[]⟩]) GX 31 := ⟨F.g, F.n⟩; obtain ⟨Y, hY⟩ : ∃ Y, X.with [⟨.fn (.func 24) #[Value.pointer (some ⟨p2, 0, none⟩), Value.pointer (some ⟨p3, 0, none⟩), Value.pointer (some ⟨p4, 0, none⟩)], #[]⟩] = Y := ⟨_, rfl⟩
 have hYW : Y.W0 = W0 := by rw [← hY]; exact hW0
 have hYS : Y.S0 = S0 := by rw [← hY]; exact hS0
 have hYR : Y.R = fun k => (none : Option (List IV)).isSome = true ∧ k = Y.p := by
  rw [← hY]; show X.R = _; rw [hR]; funext k; simp
 have hYr : Y.rcv = false := by rw [← hY]; exact hrcv
 rw [hY] at r2 F2 hXX; clear hY hW0 hS0 hR hrcv hdfr F h18 hfnv hX0; refine wp_mono (AW.at (Q := S8 p2 p3 p4 res) ?hA r2) ?post
 case hA =>
  clear r2 hXX hYW hYS hYR hYr; have F := F2; apply Ar F; go_simp; apply Ar F; go_simp; refine ⟨_, cw, ?_⟩; cases r with
  | bad a1 e1 =>
   subst hres; go_simp; exact ⟨⟨a1, rfl⟩, e1, rfl⟩
  | ok n1 j1 =>
   have csh := QD gkX 48 (by decide) n1; obtain ⟨bs, hbs⟩ : ∃ bs, shJ 48 n1 = bs := ⟨_, rfl⟩
   rw [hbs] at csh; simp only [K0, hbs] at hres; clear hbs; obtain ⟨k1, t1, m1, q1, l1, b1⟩ := n1; go_simp; apply Ar F; go_simp; refine ⟨_, csh, ?_⟩; go_simp; cases bs with
   | false =>
    simp only [Bool.false_eq_true, if_false] at hres; subst hres; (repeat apply Aq); refine At (by go_simp) ?_; apply Ar F; go_simp; apply Au; go_simp
   | true =>
    simp only [if_true] at hres; subst hres; (repeat apply Aq); refine Af (by go_simp) ?_; apply As; go_simp; apply Ar F; go_simp; apply Au; go_simp
 case post =>
  intro e a' W' hq; have fin : ∀ {w' : World} {s' : ASt} {E' : AEnv} {S' : CS}, RelE Y E' S' s' a' w' → (∃ l rc, G2 Tryz.prog s' Tryz.f15.results.toList = some l ∧ IQ s' = some rc ∧ res = .ret (Io l).er rc) → ∃ v, (results Tryz.f15 a'.tmps).run Tryz.prog w' = .ok v w' ∧ res.post W0 S0 p none (.returned v) w' := by
   rintro w' s' E' S' hR' ⟨l', rc', h1, h2, h3⟩; obtain ⟨u, hu1, hu2⟩ := Kx hR' h1; obtain ⟨q1, q2, q3⟩ := Pv (rc := none) hYW hYS hYR rfl hR' h2 hYr (fun h => by cases h); refine ⟨u, hu1, ?_⟩; rw [h3]; exact ⟨⟨u, rfl, q1 _ _ hu2⟩, fun h => (by cases h), q3.os, q3.tape, q3.output, q3.size, fun k hk _ => q3.block k hk (fun h => by cases h.1)⟩
  have inv : ∀ w' : World, (invoke (.fn (.func 24) #[Value.pointer (some ⟨p2, 0, none⟩), Value.pointer (some ⟨p3, 0, none⟩), Value.pointer (some ⟨p4, 0, none⟩)]) #[]).run Tryz.prog w' = .ok (.enter 24 #[Value.pointer (some ⟨p2, 0, none⟩), Value.pointer (some ⟨p3, 0, none⟩), Value.pointer (some ⟨p4, 0, none⟩)]) w' := fun w' => by
   have h1 : Tryz.prog.funcs[(24 : Nat)]? = some Tryz.f24 := Tryz.func24; have h2 : ¬ Tryz.f24.body = none := by intro h; cases h
   have h3 : ¬ Tryz.f24.name = "runtime.NumGoroutine" := by decide
   simp [invoke, callFunc, h1, h2, h3]
  have idle : ∀ {s' : ASt} {E' : AEnv} {S' : CS}, RelE Y E' S' s' a' W' → (∃ l rc, G2 Tryz.prog s' Tryz.f15.results.toList = some l ∧ IQ s' = some rc ∧ res = .ret (Io l).er rc) → Leaves Tryz.prog Tryz.f15 a'.tmps (fun e w' => res.post W0 S0 p none e w') a'.defers .returning W' := by
   intro s' E' S' hR' hA; rw [hR'.df, hXX]; refine ⟨fun h => (by cases h), _, _, _, _, rfl, inv W', (WL _ _ _ W').mono fun e u' w' hh => ?_⟩; obtain ⟨rfl, rfl, rfl⟩ := hh; exact fin hR' hA
  cases e with
  | normal => obtain ⟨s', ⟨E', S', hR'⟩, hA⟩ := hq; exact idle hR' hA
  | ret => obtain ⟨s', ⟨E', S', hR'⟩, hA⟩ := hq; exact idle hR' hA
  | panic ch =>
   obtain ⟨s', x, rfl, ⟨E', S', hR'⟩, a0, e0, u0, u1, u2, u3, u4, u5, v, w, rfl, g8, g9, g7, f2, f3, f4, k2, k3, k4, hres2⟩ := hq; have q2 : E'.box 2 = p2 := by have := hR'.fr 8; rw [g8] at this; exact this.2
   have q3 : E'.box 3 = p3 := by have := hR'.fr 9; rw [g9] at this; exact this.2
   have q4 : E'.box 4 = p4 := by have := hR'.fr 7; rw [g7] at this; exact this.2
   have hc := T9 hR' hYr u0 u1 u2 u3 u4 u5 v w k2 k3 k4 f2 f3 f4 a0 e0 []; rw [q2, q3, q4] at hc; show Leaves Tryz.prog Tryz.f15 a'.tmps (fun e w' => res.post W0 S0 p none e w') a'.defers (.panicking [{ v := C1 a0 e0, recovered := false }]) W'
   rw [hR'.df, hXX]; refine ⟨fun h => (by cases h), _, _, _, _, rfl, inv W', hc.mono fun e u' w' hh => ?_⟩; obtain ⟨rfl, rfl, E2, S2, hR2⟩ := hh; exact fin hR2 ⟨[.agg zeroM, iI a0, iI e0], [], by clear hc hR2 hR' r2 fin idle; go_simp, rfl, hres2.trans (by clear hc hR2 hR' r2 fin idle hres2; go_simp)⟩
  | exit id => obtain ⟨_, _, hA⟩ := hq; exact hA.elim
  | goto l => obtain ⟨_, _, hA⟩ := hq; exact hA.elim
  | outgrown => exact hq.elim
open Go Go.RowKit Go.Proofs Th
set_option maxRecDepth 8000
variable {G : World → CS → Prop}
theorem Nc : ∀ {a b : List NJ}, a.length ≠ b.length → CF a b = false
 | [], [], h => absurd rfl h
 | [], _ :: _, _ => by simp [CF]
 | _ :: _, [], _ => by simp [CF]
 | x :: a, y :: b, h => by
  rw [CF, Nc (fun e => h (by simp [e])), Bool.and_false]
theorem Uk (gk : GK G) (a b : List NJ) (IH : ∀ x ∈ a, ∀ y, ACalls Tryz.prog G 13 none [.agg (Al x), .agg (Al y)] (.ret (bI (C9 x y)) [])) : ACalls Tryz.prog G 22 none [.sl (A6 a) false, .sl (A6 b) false, .v (.func (.func 13) #[] #[])] (.ret (bI (CF a b)) []) := by
 by_cases hlen : a.length ≤ 140737488351232
 case neg => exact ⟨⟨_, Tryz.func22, rfl, rfl⟩, fun W S p us hG hSb hrc hrep => absurd (by have := Gu hrep; rwa [BI] at this) hlen⟩
 obtain ⟨z, hz⟩ : ∃ z, CF a b = z := ⟨_, rfl⟩
 rw [hz]; by_cases hl : a.length = b.length
 case neg =>
  have hlI : ¬ (a.length : Int) = (b.length : Int) := by omega
  have hz2 : z = false := by rw [← hz]; exact Nc hl
  subst hz2; refine ACalls.enter Tryz.func22 rfl rfl gk Tryz.ntmps22 fun X F => ?_
  apply Ar F; go_simp; apply Ar F; go_simp; (repeat apply Aq); refine At (by go_simp) ?_; apply Ar F; go_simp; apply Au; go_simp
 have hlI : (b.length : Int) = (a.length : Int) := by omega
 refine ACalls.enter Tryz.func22 rfl rfl gk Tryz.ntmps22 fun X F => ?_
 apply Ar F; go_simp; apply Ar F; go_simp; (repeat apply Aq); refine Af (by go_simp) ?_; apply As; go_simp; apply Ar F; go_simp; (repeat apply Aq); apply Ab; (repeat apply Aq); refine Cb [0, 1, 2, 15, 16, 17] [1000] (by decide) (fun g t => ∃ k : Nat, t = mkS [(0, .im (.sl (A6 a) false)), (1, .im (.sl (A6 b) false)), (2, .im (.v (.func (.func 13) #[] #[]))), (15, .im (.sl (A6 a) false)), (16, .im (iI a.length)), (17, .im (iI k))] [(1000, .none)] ∧ g = a.length - k ∧ k ≤ a.length ∧ CF (a.drop k) (b.drop k) = z) (a.length) ?_ ?_
 ·refine ⟨0, ?_, by omega, by omega, hz⟩
  go_simp
 rintro g t ⟨k, rfl, rfl, hk, hg⟩; by_cases hkt : k < a.length
 ·have hkI : (k : Int) < (a.length : Int) := by omega
  have hrk := rng ((k : Int) + 1) (by omega); have hkt2 : k < b.length := by omega
  have hkI2 : (k : Int) < (b.length : Int) := by omega
  have cs := IH a[k] (List.getElem_mem hkt) b[k]; rw [List.drop_eq_getElem_cons hkt, List.drop_eq_getElem_cons hkt2, CF] at hg; generalize C9 a[k] b[k] = sv at cs hg; obtain ⟨⟨k5, t5, m5, q5, l5, b5⟩, hx⟩ : ∃ x, a[k] = x := ⟨_, rfl⟩
  obtain ⟨⟨k6, t6, m6, q6, l6, b6⟩, hy⟩ : ∃ x, b[k] = x := ⟨_, rfl⟩
  rw [hx, hy] at cs; apply Ar F; go_simp; (repeat apply Aq); refine At (by go_simp) ?_; apply As; go_simp; (repeat apply Aq); apply Ab; cases sv
  ·apply Ar F
   go_simp; apply Ar F; go_simp; apply Ar F; go_simp; refine ⟨_, cs, ?_⟩; go_simp; rw [Bool.false_and] at hg; subst hg; (repeat apply Aq); refine At (by go_simp) ?_; apply Ar F; go_simp; apply Au; go_simp
  (iterate 3 apply Ar F;go_simp);refine ⟨_, cs, ?_⟩;go_simp;rw [Bool.true_and] at hg;(repeat apply Aq);refine Af (by go_simp) ?_;apply As;go_simp;apply Ar F;go_simp;refine ⟨a.length - (k + 1), by omega, k + 1, ?_, by omega, by omega, hg⟩;go_simp
 have hkI : ¬ (k : Int) < (a.length : Int) := by omega
 rw [List.drop_eq_nil_of_le (by omega), List.drop_eq_nil_of_le (by omega), CF] at hg; subst hg; apply Ar F; go_simp; (repeat apply Aq); refine Af (by go_simp) ?_; apply Ae; go_simp; apply Ar F; go_simp; apply Au; go_simp
theorem Rw (gk : GK G) : ∀ (n : Nat) (x : NJ), AB x ≤ n → ∀ y : NJ, ACalls Tryz.prog G 13 none [.agg (Al x), .agg (Al y)] (.ret (bI (C9 x y)) []) := by
 intro n; induction n with
 | zero => intro x h; obtain ⟨k1, t1, m1, q1, l1, b1⟩ := x; simp only [AB] at h; omega
 | succ n ih =>
  intro x hx y; obtain ⟨k1, t1, m1, q1, l1, b1⟩ := x; obtain ⟨k2, t2, m2, q2, l2, b2⟩ := y; rw [AB] at hx; have heq := P3; have ce := Xa gk b1 b2; have cf := Uk gk l1 l2 (fun x hx2 y => ih x (Cz.1 (by omega) x hx2) y); clear ih; obtain ⟨z, hz⟩ : ∃ z, C9 (.mk k1 t1 m1 q1 l1 b1) (.mk k2 t2 m2 q2 l2 b2) = z := ⟨_, rfl⟩
  rw [hz]; rw [C9] at hz; generalize decide (b1 = b2) = eb at ce hz; generalize CF l1 l2 = el at cf hz; by_cases h1 : k1 = k2
  case neg =>
   have hz2 : z = false := by rw [← hz]; simp [h1]
   subst hz2; refine ACalls.enter Tryz.func13 rfl rfl gk Tryz.ntmps13 fun X F => ?_
   repeat' first
    | refine AW.seq ?_
    | refine AW.block ?_
    | (refine AA F [0, 1, 2, 3, 4, 5, 6] [7, 8, 9, 10, 11, 12, 13, 14, 15, 16, 17, 18, 19, 20, 21, 22, 23, 24, 25, 26, 27, 28, 29, 30, 31, 32] (by rfl) ?_; go_simp)
    | (refine A0 [7, 8, 9, 10, 11, 12, 13] [14, 15, 16, 17, 18, 19, 20, 21, 22, 23, 24, 25, 26, 27, 28, 29, 30, 31, 32] ?_; go_simp)
    | (refine A0 [14, 15, 16, 17, 18, 19, 20] [21, 22, 23, 24, 25, 26, 27, 28, 29, 30, 31, 32] ?_; go_simp)
    | (refine A0 [21, 22, 23, 24, 25, 26, 27] [28, 29, 30, 31, 32] ?_; go_simp)
    | (refine Ap ?_; go_simp)
    | (refine AO F ?_; go_simp)
    | (refine AG ?_; go_simp)
    | (refine AW.skip ?_; go_simp)
    | (refine AW.exit ?_; go_simp)
    | (refine AW.ret ?_; go_simp)
    | (refine ⟨_, ce, ?_⟩; go_simp)
    | (refine ⟨_, cf, ?_⟩; go_simp)
    | refine ⟨fun h => ?_, fun h => ?_⟩
    | intro h
  by_cases h2 : t1 = t2
  case neg =>
   have hz2 : z = false := by rw [← hz]; simp [h2]
   subst hz2; refine ACalls.enter Tryz.func13 rfl rfl gk Tryz.ntmps13 fun X F => ?_
   repeat' first
    | refine AW.seq ?_
    | refine AW.block ?_
    | (refine AA F [0, 1, 2, 3, 4, 5, 6] [7, 8, 9, 10, 11, 12, 13, 14, 15, 16, 17, 18, 19, 20, 21, 22, 23, 24, 25, 26, 27, 28, 29, 30, 31, 32] (by rfl) ?_; go_simp)
    | (refine A0 [7, 8, 9, 10, 11, 12, 13] [14, 15, 16, 17, 18, 19, 20, 21, 22, 23, 24, 25, 26, 27, 28, 29, 30, 31, 32] ?_; go_simp)
    | (refine A0 [14, 15, 16, 17, 18, 19, 20] [21, 22, 23, 24, 25, 26, 27, 28, 29, 30, 31, 32] ?_; go_simp)
    | (refine A0 [21, 22, 23, 24, 25, 26, 27] [28, 29, 30, 31, 32] ?_; go_simp)
    | (refine Ap ?_; go_simp)
    | (refine AO F ?_; go_simp)
    | (refine AG ?_; go_simp)
    | (refine AW.skip ?_; go_simp)
    | (refine AW.exit ?_; go_simp)
    | (refine AW.ret ?_; go_simp)
    | (refine ⟨_, ce, ?_⟩; go_simp)
    | (refine ⟨_, cf, ?_⟩; go_simp)
    | refine ⟨fun h => ?_, fun h => ?_⟩
    | intro h
  by_cases h3 : m1 = m2
  case neg =>
   have hz2 : z = false := by rw [← hz]; simp [h3]
   subst hz2; refine ACalls.enter Tryz.func13 rfl rfl gk Tryz.ntmps13 fun X F => ?_
   repeat' first
    | refine AW.seq ?_
    | refine AW.block ?_
    | (refine AA F [0, 1, 2, 3, 4, 5, 6] [7, 8, 9, 10, 11, 12, 13, 14, 15, 16, 17, 18, 19, 20, 21, 22, 23, 24, 25, 26, 27, 28, 29, 30, 31, 32] (by rfl) ?_; go_simp)
    | (refine A0 [7, 8, 9, 10, 11, 12, 13] [14, 15, 16, 17, 18, 19, 20, 21, 22, 23, 24, 25, 26, 27, 28, 29, 30, 31, 32] ?_; go_simp)
    | (refine A0 [14, 15, 16, 17, 18, 19, 20] [21, 22, 23, 24, 25, 26, 27, 28, 29, 30, 31, 32] ?_; go_simp)
    | (refine A0 [21, 22, 23, 24, 25, 26, 27] [28, 29, 30, 31, 32] ?_; go_simp)
    | (refine Ap ?_; go_simp)
    | (refine AO F ?_; go_simp)
    | (refine AG ?_; go_simp)
    | (refine AW.skip ?_; go_simp)
    | (refine AW.exit ?_; go_simp)
    | (refine AW.ret ?_; go_simp)
    | (refine ⟨_, ce, ?_⟩; go_simp)
    | (refine ⟨_, cf, ?_⟩; go_simp)
    | refine ⟨fun h => ?_, fun h => ?_⟩
    | intro h
  by_cases h4 : q1 = q2
  case neg =>
   have hz2 : z = false := by rw [← hz]; simp [h4]
   subst hz2; refine ACalls.enter Tryz.func13 rfl rfl gk Tryz.ntmps13 fun X F => ?_
   repeat' first
    | refine AW.seq ?_
    | refine AW.block ?_
    | (refine AA F [0, 1, 2, 3, 4, 5, 6] [7, 8, 9, 10, 11, 12, 13, 14, 15, 16, 17, 18, 19, 20, 21, 22, 23, 24, 25, 26, 27, 28, 29, 30, 31, 32] (by rfl) ?_; go_simp)
    | (refine A0 [7, 8, 9, 10, 11, 12, 13] [14, 15, 16, 17, 18, 19, 20, 21, 22, 23, 24, 25, 26, 27, 28, 29, 30, 31, 32] ?_; go_simp)
    | (refine A0 [14, 15, 16, 17, 18, 19, 20] [21, 22, 23, 24, 25, 26, 27, 28, 29, 30, 31, 32] ?_; go_simp)
    | (refine A0 [21, 22, 23, 24, 25, 26, 27] [28, 29, 30, 31, 32] ?_; go_simp)
    | (refine Ap ?_; go_simp)
    | (refine AO F ?_; go_simp)
    | (refine AG ?_; go_simp)
    | (refine AW.skip ?_; go_simp)
    | (refine AW.exit ?_; go_simp)
    | (refine AW.ret ?_; go_simp)
    | (refine ⟨_, ce, ?_⟩; go_simp)
    | (refine ⟨_, cf, ?_⟩; go_simp)
    | refine ⟨fun h => ?_, fun h => ?_⟩
    | intro h
  have hz2 : z = (eb && el) := by rw [← hz]; simp [h1, h2, h3, h4]
  subst h1 h2 h3 h4 hz2; cases eb
  all_goals
   refine ACalls.enter Tryz.func13 rfl rfl gk Tryz.ntmps13 fun X F => ?_
   repeat' first
    | refine AW.seq ?_
    | refine AW.block ?_
    | (refine AA F [0, 1, 2, 3, 4, 5, 6] [7, 8, 9, 10, 11, 12, 13, 14, 15, 16, 17, 18, 19, 20, 21, 22, 23, 24, 25, 26, 27, 28, 29, 30, 31, 32] (by rfl) ?_; go_simp)
    | (refine A0 [7, 8, 9, 10, 11, 12, 13] [14, 15, 16, 17, 18, 19, 20, 21, 22, 23, 24, 25, 26, 27, 28, 29, 30, 31, 32] ?_; go_simp)
    | (refine A0 [14, 15, 16, 17, 18, 19, 20] [21, 22, 23, 24, 25, 26, 27, 28, 29, 30, 31, 32] ?_; go_simp)
    | (refine A0 [21, 22, 23, 24, 25, 26, 27] [28, 29, 30, 31, 32] ?_; go_simp)
    | (refine Ap ?_; go_simp)
    | (refine AO F ?_; go_simp)
    | (refine AG ?_; go_simp)
    | (refine AW.skip ?_; go_simp)
    | (refine AW.exit ?_; go_simp)
    | (refine AW.ret ?_; go_simp)
    | (refine ⟨_, ce, ?_⟩; go_simp)
    | (refine ⟨_, cf, ?_⟩; go_simp)
    | refine ⟨fun h => ?_, fun h => ?_⟩
    | intro h
end Go.Proofs.YtakncilicoefdaaGreatDoor
