/- Lemmas and contracts. Conditions: those that each lemma names. -/
import Derived.Test.YtakncilicoefdaaGreatDoorPt43
set_option maxRecDepth 100000
set_option maxHeartbeats 8000000
namespace Go.Proofs.YtakncilicoefdaaGreatDoor
open Go Go.RowKit Go.Proofs Th
def dfB : Bool → List ByteArray → ByteArray
 | _, [] => ⟨#[]⟩
 | true, x :: r => ⟨#[40]⟩ ++ x ++ dfB false r
 | false, x :: r => ⟨#[59, 32]⟩ ++ x ++ dfB false r
theorem LB : ∀ a : List ByteArray, dfB false a = lsB ⟨#[59, 32]⟩ false a
 | [] => rfl
 | x :: r => by show ⟨#[59, 32]⟩ ++ x ++ dfB false r = ⟨#[59, 32]⟩ ++ x ++ lsB ⟨#[59, 32]⟩ false r; rw [LB r]
theorem NO {a : List ByteArray} (h : 0 < a.length) : dfB true a = ⟨#[40]⟩ ++ AP ⟨#[59, 32]⟩ a := by
 cases a with
 | nil => exact absurd h (by decide)
 | cons x r =>
  rw [← Ns]; show ⟨#[40]⟩ ++ x ++ dfB false r = ⟨#[40]⟩ ++ (x ++ lsB ⟨#[59, 32]⟩ false r)
  rw [LB, ByteArray.append_assoc]
set_option maxRecDepth 8000
attribute [local go_sem] sel
attribute [local go_sem] Aa ByteArray.size_append bsz eap ape ByteArray.append_assoc
variable {G : World → CS → Prop}
theorem Xj (gk : GK G) (hW : Gd G) (t1 : ByteArray) (m1 q1 : Int) (l : List NJ) (b1 : List ByteArray) (ht : ∀ x ∈ l, TxR G x) (hs : ∀ x ∈ l, (spJ x).size ≤ 10000000) (hv : ∀ (j : Nat) (h : j < l.length), j % 2 = 0 → Lib.validD (nmJ l[j]).data.toList = true ∧ (nmJ l[j]).size ≤ 1000000) (hz : (BH true (l.map nmJ) (spL l)).size ≤ 10000000) : ACalls Tryz.prog G 17 none [.agg (Ag (.mk 4 t1 m1 q1 l b1))] (.ret (sI (⟨#[34]⟩ ++ BH true (l.map nmJ) (spL l) ++ ⟨#[34]⟩)) []) := by
 by_cases hlen : l.length ≤ 140737488351232
 case neg => exact ⟨⟨_, Tryz.func17, rfl, rfl⟩, fun W S p us hG hSb hrc hrep => absurd (by have := Bh (i := 4) hrep rfl; rwa [AF] at this) hlen⟩
 obtain ⟨J, hJ0⟩ : ∃ J, (⟨#[34]⟩ : ByteArray) ++ BH (decide (0 % 2 = 0)) ((l.map nmJ).drop 0) (spL (l.drop 0)) = J := ⟨_, rfl⟩
 have hJs : J.size ≤ 10000001 := by rw [← hJ0]; show (⟨#[34]⟩ ++ BH true (l.map nmJ) (spL l)).size ≤ _; rw [ByteArray.size_append, bsz]; simp only [List.length_cons, List.length_nil]; omega
 rw [show ⟨#[34]⟩ ++ BH true (l.map nmJ) (spL l) = J from hJ0]; refine ACalls.enter Tryz.func17 rfl rfl gk Tryz.ntmps17 fun X F => ?_
 apply Ar F; go_simp; repeat (refine And.intro (by omega) ?_; go_simp)
 apply Ar F; go_simp; repeat (refine And.intro (by omega) ?_; go_simp)
 apply Ar F; go_simp; repeat (refine And.intro (by omega) ?_; go_simp)
 (repeat apply Aq); apply Ab; apply Ar F; go_simp; repeat (refine And.intro (by omega) ?_; go_simp)
 (repeat apply Aq); refine Af (by go_simp) ?_; apply Ar F; go_simp; repeat (refine And.intro (by omega) ?_; go_simp)
 (repeat apply Aq); refine Af (by go_simp) ?_; apply Ar F; go_simp; repeat (refine And.intro (by omega) ?_; go_simp)
 (repeat apply Aq); refine Af (by go_simp) ?_; apply Ar F; go_simp; repeat (refine And.intro (by omega) ?_; go_simp)
 (repeat apply Aq); refine Af (by go_simp) ?_; apply Ar F; go_simp; repeat (refine And.intro (by omega) ?_; go_simp)
 (repeat apply Aq); refine Af (by go_simp) ?_; apply Ar F; go_simp; repeat (refine And.intro (by omega) ?_; go_simp)
 (repeat apply Aq); refine At (by go_simp) ?_; apply Ar F; go_simp; repeat (refine And.intro (by omega) ?_; go_simp)
 apply Ar F; go_simp; repeat (refine And.intro (by omega) ?_; go_simp)
 (repeat apply Aq); apply Ab; (repeat apply Aq); refine A9 [1, 3, 6, 7] [1000, 1] (by decide) (fun g t => ∃ (k : Nat) (out : ByteArray), t = mkS [(1, .ptr 1 0), (3, .im (iI l.length)), (6, .im (sI out)), (7, .im (iI k))] [(1000, .none), (1, .box ((Ag (.mk 4 t1 m1 q1 l b1)).map .im))] ∧ g = l.length - k ∧ k ≤ l.length ∧ out ++ BH (decide (k % 2 = 0)) ((l.map nmJ).drop k) (spL (l.drop k)) = J) (l.length) ?_ ?_
 ·refine ⟨0, ⟨#[34]⟩, ?_, by omega, by omega, hJ0⟩
  go_simp; repeat (refine And.intro (by omega) ?_; go_simp)
 rintro g t ⟨k, out, rfl, rfl, hk, hg⟩; have ho : out.size ≤ 10000001 := by have := congrArg ByteArray.size hg; rw [ByteArray.size_append] at this; omega
 by_cases hkt : k < l.length
 ·have hkI : (k : Int) < (l.length : Int) := by omega
  have hrk := rng ((k : Int) + 1) (by omega); have hu := hs l[k] (List.getElem_mem hkt); by_cases hp : k % 2 = 0
  ·have hm : (k : Int).tmod 2 = 0 := by rw [Int.tmod_eq_emod_of_nonneg (by omega)]; omega
   obtain ⟨hv1, hv2⟩ := hv k hkt hp; have cq := T6 gk hW (nmJ l[k]) hv2 hv1; obtain ⟨hq1, hq2⟩ := L4 (nmJ l[k]); rw [decide_eq_true hp, Kg hkt] at hg; have hbs := Hr (nmJ l[k]); generalize DC (nmJ l[k]) = B at *; generalize BQ (nmJ l[k]) = Q at *; obtain ⟨⟨k5, t5, m5, q5, l5, b5⟩, hx5⟩ : ∃ x, l[k] = x := ⟨_, rfl⟩
   rw [hx5] at cq; rw [show nmJ (.mk k5 t5 m5 q5 l5 b5) = t5 from rfl] at cq; have hQI : (Q.size : Int) - 1 = ((B.size + 1 : Nat) : Int) := by omega
   have hQ2 : ((B.size + 1 : Nat) : Int) ≤ (Q.size : Int) := by omega
   have hQe : Q.extract 1 (((B.size : Int) + 2).toNat - 1) = B := by rw [show ((B.size : Int) + 2).toNat - 1 = B.size + 1 by omega]; exact hq2
   apply Ar F; go_simp; repeat (refine And.intro (by omega) ?_; go_simp)
   (repeat apply Aq); refine At (by go_simp) ?_; apply As; go_simp; repeat (refine And.intro (by omega) ?_; go_simp)
   (repeat apply Aq); apply Ab; apply Ar F; go_simp; repeat (refine And.intro (by omega) ?_; go_simp)
   (repeat apply Aq); refine Af (by go_simp) ?_; apply As; go_simp; repeat (refine And.intro (by omega) ?_; go_simp)
   apply Ar F; go_simp; repeat (refine And.intro (by omega) ?_; go_simp)
   refine ⟨_, cq, ?_⟩; go_simp; repeat (refine And.intro (by omega) ?_; go_simp)
   apply Ar F; go_simp; repeat (refine And.intro (by omega) ?_; go_simp)
   apply Ar F; go_simp; repeat (refine And.intro (by omega) ?_; go_simp)
   refine ⟨l.length - (k + 1), by omega, k + 1, out ++ B, ?_, by omega, by omega, by rw [decide_eq_false (by omega)]; simpa [ByteArray.append_assoc] using hg⟩; go_simp; repeat (refine And.intro (by omega) ?_; go_simp)
  have hm : (k : Int).tmod 2 = 1 := by rw [Int.tmod_eq_emod_of_nonneg (by omega)]; omega
  have ct := ht l[k] (List.getElem_mem hkt); unfold TxR at ct; rw [decide_eq_false hp, LP hkt] at hg; generalize spJ l[k] = u at *; obtain ⟨⟨k5, t5, m5, q5, l5, b5⟩, hx5⟩ : ∃ x, l[k] = x := ⟨_, rfl⟩
  rw [hx5] at ct; apply Ar F; go_simp; repeat (refine And.intro (by omega) ?_; go_simp)
  (repeat apply Aq); refine At (by go_simp) ?_; apply As; go_simp; repeat (refine And.intro (by omega) ?_; go_simp)
  (repeat apply Aq); apply Ab; apply Ar F; go_simp; repeat (refine And.intro (by omega) ?_; go_simp)
  (repeat apply Aq); refine At (by go_simp) ?_; apply Ar F; go_simp; repeat (refine And.intro (by omega) ?_; go_simp)
  refine ⟨_, ct, ?_⟩; go_simp; repeat (refine And.intro (by omega) ?_; go_simp)
  apply Ae; go_simp; repeat (refine And.intro (by omega) ?_; go_simp)
  apply Ar F; go_simp; repeat (refine And.intro (by omega) ?_; go_simp)
  refine ⟨l.length - (k + 1), by omega, k + 1, out ++ ⟨#[92, 40]⟩ ++ u ++ ⟨#[41]⟩, ?_, by omega, by omega, by rw [decide_eq_true (by omega)]; simpa [ByteArray.append_assoc] using hg⟩; go_simp; repeat (refine And.intro (by omega) ?_; go_simp)
 have hkI : ¬ (k : Int) < (l.length : Int) := by omega
 rw [Ll (by omega), ape] at hg; subst hg; apply Ar F; go_simp; repeat (refine And.intro (by omega) ?_; go_simp)
 (repeat apply Aq); refine Af (by go_simp) ?_; apply Ae; go_simp; repeat (refine And.intro (by omega) ?_; go_simp)
 apply Ar F; go_simp; repeat (refine And.intro (by omega) ?_; go_simp)
 apply Au; go_simp; repeat (refine And.intro (by omega) ?_; go_simp)
theorem WO (gk : GK G) (t1 : ByteArray) (m1 q1 : Int) (l : List NJ) (b1 : List ByteArray) (ht : ∀ x ∈ l, TxR G x) (hs : ∀ x ∈ l, (spJ x).size ≤ 10000000) (hev : l.length % 2 = 0) (hz : (Cx true (spL l)).size ≤ 10000000) : ACalls Tryz.prog G 17 none [.agg (Ag (.mk 16 t1 m1 q1 l b1))] (.ret (sI (⟨#[123]⟩ ++ Cx true (spL l) ++ ⟨#[125]⟩)) []) := by
 by_cases hlen : l.length ≤ 140737488351232
 case neg => exact ⟨⟨_, Tryz.func17, rfl, rfl⟩, fun W S p us hG hSb hrc hrep => absurd (by have := Bh (i := 4) hrep rfl; rwa [AF] at this) hlen⟩
 obtain ⟨J, hJ0⟩ : ∃ J, (⟨#[123]⟩ : ByteArray) ++ Cx (decide (0 = 0)) (spL (l.drop 0)) = J := ⟨_, rfl⟩
 have hJs : J.size ≤ 10000001 := by rw [← hJ0]; show (⟨#[123]⟩ ++ Cx true (spL l)).size ≤ _; rw [ByteArray.size_append, bsz]; simp only [List.length_cons, List.length_nil]; omega
 rw [show ⟨#[123]⟩ ++ Cx true (spL l) = J from hJ0]; refine ACalls.enter Tryz.func17 rfl rfl gk Tryz.ntmps17 fun X F => ?_
 apply Ar F; go_simp; repeat (refine And.intro (by omega) ?_; go_simp)
 apply Ar F; go_simp; repeat (refine And.intro (by omega) ?_; go_simp)
 apply Ar F; go_simp; repeat (refine And.intro (by omega) ?_; go_simp)
 (repeat apply Aq); apply Ab; apply Ar F; go_simp; repeat (refine And.intro (by omega) ?_; go_simp)
 (repeat apply Aq); refine Af (by go_simp) ?_; apply Ar F; go_simp; repeat (refine And.intro (by omega) ?_; go_simp)
 (repeat apply Aq); refine Af (by go_simp) ?_; apply Ar F; go_simp; repeat (refine And.intro (by omega) ?_; go_simp)
 (repeat apply Aq); refine Af (by go_simp) ?_; apply Ar F; go_simp; repeat (refine And.intro (by omega) ?_; go_simp)
 (repeat apply Aq); refine Af (by go_simp) ?_; apply Ar F; go_simp; repeat (refine And.intro (by omega) ?_; go_simp)
 (repeat apply Aq); refine Af (by go_simp) ?_; apply Ar F; go_simp; repeat (refine And.intro (by omega) ?_; go_simp)
 (repeat apply Aq); refine Af (by go_simp) ?_; apply Ar F; go_simp; repeat (refine And.intro (by omega) ?_; go_simp)
 (repeat apply Aq); refine Af (by go_simp) ?_; apply Ar F; go_simp; repeat (refine And.intro (by omega) ?_; go_simp)
 (repeat apply Aq); refine Af (by go_simp) ?_; apply Ar F; go_simp; repeat (refine And.intro (by omega) ?_; go_simp)
 (repeat apply Aq); refine Af (by go_simp) ?_; apply Ar F; go_simp; repeat (refine And.intro (by omega) ?_; go_simp)
 (repeat apply Aq); refine Af (by go_simp) ?_; apply Ar F; go_simp; repeat (refine And.intro (by omega) ?_; go_simp)
 (repeat apply Aq); refine Af (by go_simp) ?_; apply Ar F; go_simp; repeat (refine And.intro (by omega) ?_; go_simp)
 (repeat apply Aq); refine At (by go_simp) ?_; apply Ar F; go_simp; repeat (refine And.intro (by omega) ?_; go_simp)
 apply Ar F; go_simp; repeat (refine And.intro (by omega) ?_; go_simp)
 (repeat apply Aq); apply Ab; (repeat apply Aq); refine A9 [1, 3, 10, 11] [1000, 1] (by decide) (fun g t => ∃ (k : Nat) (out : ByteArray), t = mkS [(1, .ptr 1 0), (3, .im (iI l.length)), (10, .im (sI out)), (11, .im (iI k))] [(1000, .none), (1, .box ((Ag (.mk 16 t1 m1 q1 l b1)).map .im))] ∧ g = l.length - k ∧ k ≤ l.length ∧ k % 2 = 0 ∧ out ++ Cx (decide (k = 0)) (spL (l.drop k)) = J) (l.length) ?_ ?_
 ·refine ⟨0, ⟨#[123]⟩, ?_, by omega, by omega, by omega, hJ0⟩
  go_simp; repeat (refine And.intro (by omega) ?_; go_simp)
 rintro g t ⟨k, out, rfl, rfl, hk, hke, hg⟩; have ho : out.size ≤ 10000001 := by have := congrArg ByteArray.size hg; rw [ByteArray.size_append] at this; omega
 by_cases hkt : k < l.length
 ·have hk1 : k + 1 < l.length := by omega
  have hkI : (k : Int) < (l.length : Int) := by omega
  have hrk := rng ((k : Int) + 1) (by omega); have hrk2 := rng ((k : Int) + 2) (by omega); have hu := hs l[k] (List.getElem_mem hkt); have hv := hs l[k + 1] (List.getElem_mem hk1); have cx := ht l[k] (List.getElem_mem hkt); have cy := ht l[k + 1] (List.getElem_mem hk1); unfold TxR at cx cy; rw [LV hkt hk1] at hg; generalize spJ l[k] = u at *; generalize spJ l[k + 1] = v at *; obtain ⟨⟨k5, t5, m5, q5, l5, b5⟩, hx5⟩ : ∃ x, l[k] = x := ⟨_, rfl⟩
  obtain ⟨⟨k6, t6, m6, q6, l6, b6⟩, hx6⟩ : ∃ x, l[k + 1] = x := ⟨_, rfl⟩
  rw [hx5] at cx; rw [hx6] at cy; have hnat : ((k : Int) + 1).toNat = k + 1 := by omega
  have h41 : ∀ w : ByteArray, (⟨#[41]⟩ : ByteArray) ++ (⟨#[58, 32]⟩ ++ w) = ⟨#[41, 58, 32]⟩ ++ w := fun w => by rw [← ByteArray.append_assoc]; rfl
  by_cases hk0 : k = 0
  ·have hkp : ¬ 0 < k := by omega
   rw [decide_eq_true hk0, if_pos rfl, eap] at hg; clear hk0; apply Ar F; go_simp; repeat (refine And.intro (by omega) ?_; go_simp)
   (repeat apply Aq); refine At (by go_simp) ?_; apply As; go_simp; repeat (refine And.intro (by omega) ?_; go_simp)
   (repeat apply Aq); apply Ab; apply Ar F; go_simp; repeat (refine And.intro (by omega) ?_; go_simp)
   (repeat apply Aq); refine Af (by go_simp) ?_; apply As; go_simp; repeat (refine And.intro (by omega) ?_; go_simp)
   (repeat apply Aq); refine Ad F [0, 1, 2, 3, 4, 5, 6, 10, 11, 12, 13, 14, 15, 7, 8, 9, 16, 17, 18] [(11, 7), (14, 7), (15, 7)] mixed (by kernel_rfl) ?_; go_simp; repeat (refine And.intro (by omega) ?_; go_simp)
   refine ⟨_, cx, ?_⟩; go_simp; repeat (refine And.intro (by omega) ?_; go_simp)
   refine ⟨_, cy, ?_⟩; go_simp; repeat (refine And.intro (by omega) ?_; go_simp)
   apply Ar F; go_simp; repeat (refine And.intro (by omega) ?_; go_simp)
   refine ⟨l.length - (k + 2), by omega, k + 2, out ++ ⟨#[40]⟩ ++ u ++ ⟨#[41, 58, 32]⟩ ++ v, ?_, by omega, by omega, by omega, by rw [decide_eq_false (by omega)]; simpa [CM, eap, ape, ByteArray.append_assoc, h41] using hg⟩; go_simp; repeat (refine And.intro (by omega) ?_; go_simp)
  have hkp : 0 < k := by omega
  rw [decide_eq_false hk0, if_neg (by decide)] at hg; clear hk0; apply Ar F; go_simp; repeat (refine And.intro (by omega) ?_; go_simp)
  (repeat apply Aq); refine At (by go_simp) ?_; apply As; go_simp; repeat (refine And.intro (by omega) ?_; go_simp)
  (repeat apply Aq); apply Ab; apply Ar F; go_simp; repeat (refine And.intro (by omega) ?_; go_simp)
  (repeat apply Aq); refine At (by go_simp) ?_; apply Ar F; go_simp; repeat (refine And.intro (by omega) ?_; go_simp)
  (repeat apply Aq); refine Ad F [0, 1, 2, 3, 4, 5, 6, 10, 11, 12, 13, 14, 15, 7, 8, 9, 16, 17, 18] [(11, 7), (14, 7), (15, 7)] mixed (by kernel_rfl) ?_; go_simp; repeat (refine And.intro (by omega) ?_; go_simp)
  refine ⟨_, cx, ?_⟩; go_simp; repeat (refine And.intro (by omega) ?_; go_simp)
  refine ⟨_, cy, ?_⟩; go_simp; repeat (refine And.intro (by omega) ?_; go_simp)
  apply Ar F; go_simp; repeat (refine And.intro (by omega) ?_; go_simp)
  refine ⟨l.length - (k + 2), by omega, k + 2, out ++ ⟨#[44, 32]⟩ ++ ⟨#[40]⟩ ++ u ++ ⟨#[41, 58, 32]⟩ ++ v, ?_, by omega, by omega, by omega, by rw [decide_eq_false (by omega)]; simpa [CM, eap, ape, ByteArray.append_assoc, h41] using hg⟩; go_simp; repeat (refine And.intro (by omega) ?_; go_simp)
 have hkI : ¬ (k : Int) < (l.length : Int) := by omega
 rw [Nz (by omega), ape] at hg; subst hg; apply Ar F; go_simp; repeat (refine And.intro (by omega) ?_; go_simp)
 (repeat apply Aq); refine Af (by go_simp) ?_; apply Ae; go_simp; repeat (refine And.intro (by omega) ?_; go_simp)
 apply Ar F; go_simp; repeat (refine And.intro (by omega) ?_; go_simp)
 apply Au; go_simp; repeat (refine And.intro (by omega) ?_; go_simp)
theorem Ww (gk : GK G) (t1 : ByteArray) (m1 q1 : Int) (b1 : List ByteArray) (ht1 : t1.size ≤ 1000000) (hb : ∀ x ∈ b1, x.size ≤ 1000000) (hz : (dfB true b1).size ≤ 1000000) (x0 x1 : NJ) (c0 : TxR G x0) (h0 : (spJ x0).size ≤ 10000000) (c1 : TxR G x1) (h1 : (spJ x1).size ≤ 10000000) : ACalls Tryz.prog G 17 none [.agg (Ag (.mk 24 t1 m1 q1 [x0, x1] b1))] (.ret (sI (Aa [⟨#[40, 100, 101, 102, 32]⟩, t1, dfB true b1, (if b1.length = 0 then ⟨#[]⟩ else ⟨#[41]⟩), ⟨#[58, 32]⟩, spJ x0, ⟨#[59, 32]⟩, spJ x1, ⟨#[41]⟩])) []) := by
 by_cases hlen : b1.length ≤ 140737488351232
 case neg => exact ⟨⟨_, Tryz.func17, rfl, rfl⟩, fun W S p us hG hSb hrc hrep => absurd (by have := Bh (i := 5) hrep rfl; rwa [List.length_map] at this) hlen⟩
 obtain ⟨z, hJ0⟩ : ∃ z, (⟨#[40, 100, 101, 102, 32]⟩ ++ t1 : ByteArray) ++ dfB (decide (0 = 0)) (b1.drop 0) = z := ⟨_, rfl⟩
 have hzs : z.size ≤ 10000000 := by rw [← hJ0]; show ((⟨#[40, 100, 101, 102, 32]⟩ ++ t1 : ByteArray) ++ dfB true b1).size ≤ _; rw [ByteArray.size_append, ByteArray.size_append, bsz]; simp only [List.length_cons, List.length_nil]; omega
 have hcat : ∀ w, Aa [⟨#[40, 100, 101, 102, 32]⟩, t1, dfB true b1, w, ⟨#[58, 32]⟩, spJ x0, ⟨#[59, 32]⟩, spJ x1, ⟨#[41]⟩] = Aa [z, w, ⟨#[58, 32]⟩, spJ x0, ⟨#[59, 32]⟩, spJ x1, ⟨#[41]⟩] := fun w => by rw [← hJ0]; show _ = Aa [(⟨#[40, 100, 101, 102, 32]⟩ ++ t1 : ByteArray) ++ dfB true b1, w, ⟨#[58, 32]⟩, spJ x0, ⟨#[59, 32]⟩, spJ x1, ⟨#[41]⟩]; simp only [Aa, ByteArray.append_assoc]
 rw [hcat]; clear hcat hz; unfold TxR at c0; generalize spJ x0 = u at *; obtain ⟨k2, t2, m2, q2, l2, b2⟩ := x0; unfold TxR at c1; generalize spJ x1 = v at *; obtain ⟨k3, t3, m3, q3, l3, b3⟩ := x1; refine ACalls.enter Tryz.func17 rfl rfl gk Tryz.ntmps17 fun X F => ?_
 apply Ar F; go_simp; repeat (refine And.intro (by omega) ?_; go_simp)
 apply Ar F; go_simp; repeat (refine And.intro (by omega) ?_; go_simp)
 apply Ar F; go_simp; repeat (refine And.intro (by omega) ?_; go_simp)
 (repeat apply Aq); apply Ab; apply Ar F; go_simp; repeat (refine And.intro (by omega) ?_; go_simp)
 (repeat apply Aq); refine Af (by go_simp) ?_; apply Ar F; go_simp; repeat (refine And.intro (by omega) ?_; go_simp)
 (repeat apply Aq); refine Af (by go_simp) ?_; apply Ar F; go_simp; repeat (refine And.intro (by omega) ?_; go_simp)
 (repeat apply Aq); refine Af (by go_simp) ?_; apply Ar F; go_simp; repeat (refine And.intro (by omega) ?_; go_simp)
 (repeat apply Aq); refine Af (by go_simp) ?_; apply Ar F; go_simp; repeat (refine And.intro (by omega) ?_; go_simp)
 (repeat apply Aq); refine Af (by go_simp) ?_; apply Ar F; go_simp; repeat (refine And.intro (by omega) ?_; go_simp)
 (repeat apply Aq); refine Af (by go_simp) ?_; apply Ar F; go_simp; repeat (refine And.intro (by omega) ?_; go_simp)
 (repeat apply Aq); refine Af (by go_simp) ?_; apply Ar F; go_simp; repeat (refine And.intro (by omega) ?_; go_simp)
 (repeat apply Aq); refine Af (by go_simp) ?_; apply Ar F; go_simp; repeat (refine And.intro (by omega) ?_; go_simp)
 (repeat apply Aq); refine Af (by go_simp) ?_; apply Ar F; go_simp; repeat (refine And.intro (by omega) ?_; go_simp)
 (repeat apply Aq); refine Af (by go_simp) ?_; apply Ar F; go_simp; repeat (refine And.intro (by omega) ?_; go_simp)
 (repeat apply Aq); refine Af (by go_simp) ?_; apply Ar F; go_simp; repeat (refine And.intro (by omega) ?_; go_simp)
 (repeat apply Aq); refine Af (by go_simp) ?_; apply Ar F; go_simp; repeat (refine And.intro (by omega) ?_; go_simp)
 (repeat apply Aq); refine Af (by go_simp) ?_; apply Ar F; go_simp; repeat (refine And.intro (by omega) ?_; go_simp)
 (repeat apply Aq); refine Af (by go_simp) ?_; apply Ar F; go_simp; repeat (refine And.intro (by omega) ?_; go_simp)
 (repeat apply Aq); refine Af (by go_simp) ?_; apply Ar F; go_simp; repeat (refine And.intro (by omega) ?_; go_simp)
 (repeat apply Aq); refine Af (by go_simp) ?_; apply Ar F; go_simp; repeat (refine And.intro (by omega) ?_; go_simp)
 (repeat apply Aq); refine Af (by go_simp) ?_; apply Ar F; go_simp; repeat (refine And.intro (by omega) ?_; go_simp)
 (repeat apply Aq); refine Af (by go_simp) ?_; apply Ar F; go_simp; repeat (refine And.intro (by omega) ?_; go_simp)
 (repeat apply Aq); refine At (by go_simp) ?_; apply Ar F; go_simp; repeat (refine And.intro (by omega) ?_; go_simp)
 apply Ar F; go_simp; repeat (refine And.intro (by omega) ?_; go_simp)
 (repeat apply Aq); apply Ab; (repeat apply Aq); refine A9 [1, 12, 13] [1000, 1] (by decide) (fun g t => ∃ (k : Nat) (out : ByteArray), t = mkS [(1, .ptr 1 0), (12, .im (sI out)), (13, .im (iI k))] [(1000, .none), (1, .box ((Ag (.mk 24 t1 m1 q1 [.mk k2 t2 m2 q2 l2 b2, .mk k3 t3 m3 q3 l3 b3] b1)).map .im))] ∧ g = b1.length - k ∧ k ≤ b1.length ∧ out ++ dfB (decide (k = 0)) (b1.drop k) = z) (b1.length) ?_ ?_
 ·refine ⟨0, ⟨#[40, 100, 101, 102, 32]⟩ ++ t1, ?_, by omega, by omega, hJ0⟩
  go_simp; repeat (refine And.intro (by omega) ?_; go_simp)
 rintro g t ⟨k, out, rfl, rfl, hk, hg⟩; have ho : out.size ≤ 10000001 := by have := congrArg ByteArray.size hg; rw [ByteArray.size_append] at this; omega
 by_cases hkt : k < b1.length
 ·have hkI : (k : Int) < (b1.length : Int) := by omega
  have hrk := rng ((k : Int) + 1) (by omega); rw [List.drop_eq_getElem_cons hkt] at hg; have hys := hb b1[k] (List.getElem_mem hkt); obtain ⟨y, hy⟩ : ∃ y, b1[k] = y := ⟨_, rfl⟩
  rw [hy] at hg hys; by_cases hk0 : k = 0
  ·have hkp : k = 0 ↔ True := iff_true_intro hk0
   rw [decide_eq_true hk0] at hg; subst hk0; clear hkp; replace hg : out ++ (⟨#[40]⟩ ++ y ++ dfB false (b1.drop 1)) = z := hg; apply Ar F; go_simp; repeat (refine And.intro (by omega) ?_; go_simp)
   (repeat apply Aq); refine At (by go_simp) ?_; apply As; go_simp; repeat (refine And.intro (by omega) ?_; go_simp)
   (repeat apply Aq); apply Ab; apply Ar F; go_simp; repeat (refine And.intro (by omega) ?_; go_simp)
   (repeat apply Aq); refine At (by go_simp) ?_; apply Ar F; go_simp; repeat (refine And.intro (by omega) ?_; go_simp)
   apply Ar F; go_simp; repeat (refine And.intro (by omega) ?_; go_simp)
   apply Ar F; go_simp; repeat (refine And.intro (by omega) ?_; go_simp)
   refine ⟨b1.length - 1, by omega, 1, out ++ ⟨#[40]⟩ ++ y, ?_, by omega, by omega, by rw [decide_eq_false (by omega)]; simpa [ByteArray.append_assoc] using hg⟩; go_simp; repeat (refine And.intro (by omega) ?_; go_simp)
  have hkp : ¬ (k : Int) = 0 := by omega
  rw [decide_eq_false hk0] at hg; replace hg : out ++ (⟨#[59, 32]⟩ ++ y ++ dfB false (b1.drop (k + 1))) = z := hg; apply Ar F; go_simp; repeat (refine And.intro (by omega) ?_; go_simp)
  (repeat apply Aq); refine At (by go_simp) ?_; apply As; go_simp; repeat (refine And.intro (by omega) ?_; go_simp)
  (repeat apply Aq); apply Ab; apply Ar F; go_simp; repeat (refine And.intro (by omega) ?_; go_simp)
  (repeat apply Aq); refine Af (by go_simp) ?_; apply Ar F; go_simp; repeat (refine And.intro (by omega) ?_; go_simp)
  apply Ar F; go_simp; repeat (refine And.intro (by omega) ?_; go_simp)
  apply Ar F; go_simp; repeat (refine And.intro (by omega) ?_; go_simp)
  refine ⟨b1.length - (k + 1), by omega, k + 1, out ++ ⟨#[59, 32]⟩ ++ y, ?_, by omega, by omega, by rw [decide_eq_false (by omega)]; simpa [ByteArray.append_assoc] using hg⟩; go_simp; repeat (refine And.intro (by omega) ?_; go_simp)
 have hkI : ¬ (k : Int) < (b1.length : Int) := by omega
 rw [List.drop_eq_nil_of_le (by omega), show dfB (decide (k = 0)) [] = ⟨#[]⟩ by cases decide (k = 0) <;> rfl, ape] at hg; subst hg; by_cases hb0 : b1.length = 0
 ·obtain rfl := List.eq_nil_of_length_eq_zero hb0
  apply Ar F; go_simp; repeat (refine And.intro (by omega) ?_; go_simp)
  (repeat apply Aq); refine Af (by go_simp) ?_; apply Ae; go_simp; repeat (refine And.intro (by omega) ?_; go_simp)
  apply Ar F; go_simp; repeat (refine And.intro (by omega) ?_; go_simp)
  (repeat apply Aq); refine Af (by go_simp) ?_; apply As; go_simp; repeat (refine And.intro (by omega) ?_; go_simp)
  (repeat apply Aq); refine Ad F [0, 1, 2, 3, 4, 5, 9, 10, 11, 12, 6, 7, 8, 13, 14, 15, 16] [(10, 6), (11, 6), (12, 6)] mixed (by kernel_rfl) ?_; go_simp; repeat (refine And.intro (by omega) ?_; go_simp)
  refine ⟨_, c0, ?_⟩; go_simp; repeat (refine And.intro (by omega) ?_; go_simp)
  refine ⟨_, c1, ?_⟩; go_simp; repeat (refine And.intro (by omega) ?_; go_simp)
  apply Au; go_simp; repeat (refine And.intro (by omega) ?_; go_simp)
 have hbI : 0 < b1.length := by omega
 have hbN : ¬ b1 = [] := fun h => hb0 (by rw [h]; rfl)
 apply Ar F; go_simp; repeat (refine And.intro (by omega) ?_; go_simp)
 (repeat apply Aq); refine Af (by go_simp) ?_; apply Ae; go_simp; repeat (refine And.intro (by omega) ?_; go_simp)
 apply Ar F; go_simp; repeat (refine And.intro (by omega) ?_; go_simp)
 (repeat apply Aq); refine At (by go_simp) ?_; apply Ar F; go_simp; repeat (refine And.intro (by omega) ?_; go_simp)
 (repeat apply Aq); refine Ad F [0, 1, 2, 3, 4, 5, 9, 10, 11, 12, 6, 7, 8, 13, 14, 15, 16] [(10, 6), (11, 6), (12, 6)] mixed (by kernel_rfl) ?_; go_simp; repeat (refine And.intro (by omega) ?_; go_simp)
 refine ⟨_, c0, ?_⟩; go_simp; repeat (refine And.intro (by omega) ?_; go_simp)
 refine ⟨_, c1, ?_⟩; go_simp; repeat (refine And.intro (by omega) ?_; go_simp)
 apply Au; go_simp; repeat (refine And.intro (by omega) ?_; go_simp)
end Go.Proofs.YtakncilicoefdaaGreatDoor
