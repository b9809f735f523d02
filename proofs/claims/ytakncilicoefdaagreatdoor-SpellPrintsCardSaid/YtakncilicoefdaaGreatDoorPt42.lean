/- Lemmas and contracts. Conditions: those that each lemma names. -/
import Derived.Test.YtakncilicoefdaaGreatDoorPt41
set_option maxRecDepth 100000
set_option maxHeartbeats 8000000
namespace Go.Proofs.YtakncilicoefdaaGreatDoor
open Go Go.RowKit Go.Proofs Th
def Gd (G : World → CS → Prop) : Prop := ∀ s : ByteArray, s.size ≤ 1000000 → Lib.validD s.data.toList = true → ACalls Tryz.prog G 62 none [sI s] (.ret (.tup [sI (BQ s), .v (.int .i64 0)]) [])
def TxR (G : World → CS → Prop) (n : NJ) : Prop := ACalls Tryz.prog G 17 none [.agg (Ag n)] (.ret (sI (spJ n)) [])
def lsB (gap : ByteArray) : Bool → List ByteArray → ByteArray
 | _, [] => ⟨#[]⟩
 | true, t :: r => t ++ lsB gap false r
 | false, t :: r => gap ++ t ++ lsB gap false r
theorem LQ (gap : ByteArray) : ∀ ts : List ByteArray, lsB gap false ts = (if ts = [] then ⟨#[]⟩ else gap ++ AP gap ts)
 | [] => rfl
 | [t] => by rw [if_neg (by simp)]; show gap ++ t ++ ⟨#[]⟩ = gap ++ t; rw [ape]
 | t :: u :: r => by
  rw [if_neg (by simp)]; show gap ++ t ++ lsB gap false (u :: r) = gap ++ (t ++ gap ++ AP gap (u :: r))
  rw [LQ gap (u :: r), if_neg (by simp)]; simp only [ByteArray.append_assoc]
theorem Ns (gap : ByteArray) (ts : List ByteArray) : lsB gap true ts = AP gap ts := by
 match ts with
 | [] => rfl
 | [t] => show t ++ ⟨#[]⟩ = t; rw [ape]
 | t :: u :: r => show t ++ lsB gap false (u :: r) = _; rw [LQ, if_neg (by simp)]; show _ = t ++ gap ++ AP gap (u :: r); simp only [ByteArray.append_assoc]
set_option maxRecDepth 8000
attribute [local go_sem] sel
attribute [local go_sem] Aa ByteArray.size_append bsz eap ape ByteArray.append_assoc
variable {G : World → CS → Prop}
theorem T6 (gk : GK G) (hW : Gd G) (s : ByteArray) (hs : s.size ≤ 1000000) (hv : Lib.validD s.data.toList = true) : ACalls Tryz.prog G 38 none [sI s] (.ret (sI (BQ s)) []) := by
 have cw := hW s hs hv; generalize BQ s = z at cw; refine ACalls.enter Tryz.func38 rfl rfl gk Tryz.ntmps38 fun X F => ?_
 apply Ar F; go_simp; apply Ar F; go_simp; refine ⟨_, cw, ?_⟩; go_simp; apply Ar F; go_simp; apply Au; go_simp
theorem C4 (gk : GK G) (n : NJ) (ct : TxR G n) (hs : (spJ n).size ≤ 10000000) : ACalls Tryz.prog G 39 none [.agg (Ag n)] (.ret (sI (tgB (Av n) (spJ n))) []) := by
 unfold TxR at ct; obtain ⟨k1, t1, m1, q1, l1, b1⟩ := n; generalize spJ (.mk k1 t1 m1 q1 l1 b1) = u at *; rw [show Av (.mk k1 t1 m1 q1 l1 b1) = k1 from rfl]; obtain ⟨z, hz⟩ : ∃ z, tgB k1 u = z := ⟨_, rfl⟩
 rw [hz]; refine ACalls.enter Tryz.func39 rfl rfl gk Tryz.ntmps39 fun X F => ?_
 by_cases g1 : k1 = 1
 ·subst g1
  have hz2 : z = u := by rw [← hz]; rfl
  subst hz2; apply Ar F; go_simp; apply Ar F; go_simp; (repeat apply Aq); refine At (by go_simp) ?_; apply Ar F; go_simp; refine ⟨_, ct, ?_⟩; go_simp; apply Au; go_simp
 by_cases g5 : k1 = 5
 ·subst g5
  have hz2 : z = u := by rw [← hz]; rfl
  subst hz2; apply Ar F; go_simp; apply Ar F; go_simp; (repeat apply Aq); refine At (by go_simp) ?_; apply Ar F; go_simp; refine ⟨_, ct, ?_⟩; go_simp; apply Au; go_simp
 by_cases g6 : k1 = 6
 ·subst g6
  have hz2 : z = u := by rw [← hz]; rfl
  subst hz2; apply Ar F; go_simp; apply Ar F; go_simp; (repeat apply Aq); refine At (by go_simp) ?_; apply Ar F; go_simp; refine ⟨_, ct, ?_⟩; go_simp; apply Au; go_simp
 by_cases g7 : k1 = 7
 ·subst g7
  have hz2 : z = u := by rw [← hz]; rfl
  subst hz2; apply Ar F; go_simp; apply Ar F; go_simp; (repeat apply Aq); refine At (by go_simp) ?_; apply Ar F; go_simp; refine ⟨_, ct, ?_⟩; go_simp; apply Au; go_simp
 by_cases g22 : k1 = 22
 ·subst g22
  have hz2 : z = u := by rw [← hz]; rfl
  subst hz2; apply Ar F; go_simp; apply Ar F; go_simp; (repeat apply Aq); refine At (by go_simp) ?_; apply Ar F; go_simp; refine ⟨_, ct, ?_⟩; go_simp; apply Au; go_simp
 by_cases g23 : k1 = 23
 ·subst g23
  have hz2 : z = u := by rw [← hz]; rfl
  subst hz2; apply Ar F; go_simp; apply Ar F; go_simp; (repeat apply Aq); refine At (by go_simp) ?_; apply Ar F; go_simp; refine ⟨_, ct, ?_⟩; go_simp; apply Au; go_simp
 have hz2 : z = Aa [⟨#[40]⟩, u, ⟨#[41]⟩] := by rw [← hz]; unfold tgB; rw [if_neg (by simp [JT, *])]; simp [Aa, CM, ape, ByteArray.append_assoc]
 rw [hz2]; apply Ar F; go_simp; apply Ar F; go_simp; (repeat apply Aq); refine Af (by go_simp) ?_; apply As; go_simp; apply Ar F; go_simp; refine ⟨_, ct, ?_⟩; go_simp; repeat (refine And.intro (by omega) ?_; go_simp)
 apply Au; go_simp
theorem VG (gk : GK G) (k1 : Int) (t1 : ByteArray) (m1 q1 : Int) (l1 : List NJ) (b1 : List ByteArray) : ACalls Tryz.prog G 41 none [.agg (Ag (.mk k1 t1 m1 q1 l1 b1))] (.ret (sI (AG k1 t1)) []) := by
 obtain ⟨z, hz⟩ : ∃ z, AG k1 t1 = z := ⟨_, rfl⟩
 rw [hz]; refine ACalls.enter Tryz.func41 rfl rfl gk Tryz.ntmps41 fun X F => ?_
 by_cases g8 : k1 = 8
 ·subst g8
  have hz2 := hz; simp [AG] at hz2; subst hz2; apply Ar F; go_simp; apply Ar F; go_simp; (repeat apply Aq); apply Ab; apply Ar F; go_simp; (repeat apply Aq); refine At (by go_simp) ?_; apply Ar F; go_simp; apply Au; go_simp
 by_cases g9 : k1 = 9
 ·subst g9
  have hz2 := hz; simp [AG] at hz2; subst hz2; apply Ar F; go_simp; apply Ar F; go_simp; (repeat apply Aq); apply Ab; apply Ar F; go_simp; (repeat apply Aq); refine Af (by go_simp) ?_; apply Ar F; go_simp; (repeat apply Aq); refine At (by go_simp) ?_; apply Ar F; go_simp; apply Au; go_simp
 by_cases g11 : k1 = 11
 ·subst g11
  have hz2 := hz;simp [AG] at hz2;subst hz2;apply Ar F;go_simp;apply Ar F;go_simp;(repeat apply Aq);apply Ab;(iterate 2 apply Ar F;go_simp;(repeat apply Aq);refine Af (by go_simp) ?_);apply Ar F;go_simp;(repeat apply Aq);refine At (by go_simp) ?_;apply Ar F;go_simp;apply Au;go_simp
 by_cases g12 : k1 = 12
 ·subst g12
  have hz2 := hz;simp [AG] at hz2;subst hz2;apply Ar F;go_simp;apply Ar F;go_simp;(repeat apply Aq);apply Ab;(iterate 3 apply Ar F;go_simp;(repeat apply Aq);refine Af (by go_simp) ?_);apply Ar F;go_simp;(repeat apply Aq);refine At (by go_simp) ?_;apply Ar F;go_simp;apply Au;go_simp
 by_cases g13 : k1 = 13
 ·subst g13
  have hz2 := hz;simp [AG] at hz2;subst hz2;apply Ar F;go_simp;apply Ar F;go_simp;(repeat apply Aq);apply Ab;(iterate 4 apply Ar F;go_simp;(repeat apply Aq);refine Af (by go_simp) ?_);apply Ar F;go_simp;(repeat apply Aq);refine At (by go_simp) ?_;apply Ar F;go_simp;apply Au;go_simp
 have hz2 : z = t1 := by rw [← hz]; simp [AG, *]
 subst hz2;apply Ar F;go_simp;apply Ar F;go_simp;(repeat apply Aq);apply Ab;(iterate 5 apply Ar F;go_simp;(repeat apply Aq);refine Af (by go_simp) ?_);apply As;go_simp;apply Ar F;go_simp;apply Au;go_simp
theorem Kw (gk : GK G) (l : List NJ) (gap : ByteArray) (ht : ∀ x ∈ l, TxR G x) (hs : ∀ x ∈ l, (spJ x).size ≤ 10000000) (hgp : gap.size ≤ 100) (hz : (AP gap (l.map spJ)).size ≤ 10000000) : ACalls Tryz.prog G 40 none [.sl (AJ l) false, sI gap] (.ret (sI (AP gap (l.map spJ))) []) := by
 by_cases hlen : l.length ≤ 140737488351232
 case neg => exact ⟨⟨_, Tryz.func40, rfl, rfl⟩, fun W S p us hG hSb hrc hrep => absurd (by have := Ez hrep; rwa [AF] at this) hlen⟩
 rw [← Ns] at hz ⊢; obtain ⟨z, hJ0⟩ : ∃ z, (⟨#[]⟩ : ByteArray) ++ lsB gap (decide (0 = 0)) ((l.map spJ).drop 0) = z := ⟨_, rfl⟩
 rw [show lsB gap true (l.map spJ) = z from (eap _).symm.trans hJ0] at hz ⊢; refine ACalls.enter Tryz.func40 rfl rfl gk Tryz.ntmps40 fun X F => ?_
 (iterate 3 apply Ar F;go_simp);(repeat apply Aq);apply Ab;(repeat apply Aq);refine A9 [0, 1, 5, 6] [1000] (by decide) (fun g t => ∃ (k : Nat) (out : ByteArray), t = mkS [(0, .im (.sl (AJ l) false)), (1, .im (sI gap)), (5, .im (sI out)), (6, .im (iI k))] [(1000, .none)] ∧ g = l.length - k ∧ k ≤ l.length ∧ out ++ lsB gap (decide (k = 0)) ((l.map spJ).drop k) = z) (l.length) ?_ ?_
 ·refine ⟨0, ⟨#[]⟩, ?_, by omega, by omega, hJ0⟩
  go_simp
 rintro g t ⟨k, out, rfl, rfl, hk, hg⟩; have ho : out.size ≤ 10000000 := by have := congrArg ByteArray.size hg; rw [ByteArray.size_append] at this; omega
 by_cases hkt : k < l.length
 ·have hkI : (k : Int) < (l.length : Int) := by omega
  have hrk := rng ((k : Int) + 1) (by omega); have hu := hs l[k] (List.getElem_mem hkt); have cx := ht l[k] (List.getElem_mem hkt); unfold TxR at cx; rw [List.drop_eq_getElem_cons (by simpa using hkt), List.getElem_map] at hg; generalize spJ l[k] = u at *; obtain ⟨⟨k5, t5, m5, q5, l5, b5⟩, hx5⟩ : ∃ x, l[k] = x := ⟨_, rfl⟩
  rw [hx5] at cx; by_cases hk0 : k = 0
  ·have hkp : ¬ 0 < k := by omega
   rw [decide_eq_true hk0] at hg; clear hk0; replace hg : out ++ (u ++ lsB gap false ((l.map spJ).drop (k + 1))) = z := hg; apply Ar F; go_simp; (repeat apply Aq); refine At (by go_simp) ?_; apply As; go_simp; (repeat apply Aq); apply Ab; apply Ar F; go_simp; (repeat apply Aq); refine Af (by go_simp) ?_; apply As; go_simp; apply Ar F; go_simp; refine ⟨_, cx, ?_⟩; go_simp; repeat (refine And.intro (by omega) ?_; go_simp)
   apply Ar F; go_simp; refine ⟨l.length - (k + 1), by omega, k + 1, out ++ u, ?_, by omega, by omega, by rw [decide_eq_false (by omega)]; simpa [ByteArray.append_assoc] using hg⟩; go_simp
  have hkp : 0 < k := by omega
  rw [decide_eq_false hk0] at hg; clear hk0; replace hg : out ++ (gap ++ u ++ lsB gap false ((l.map spJ).drop (k + 1))) = z := hg; apply Ar F; go_simp; (repeat apply Aq); refine At (by go_simp) ?_; apply As; go_simp; (repeat apply Aq); apply Ab; apply Ar F; go_simp; (repeat apply Aq); refine At (by go_simp) ?_; apply Ar F; go_simp; repeat (refine And.intro (by omega) ?_; go_simp)
  apply Ar F; go_simp; refine ⟨_, cx, ?_⟩; go_simp; repeat (refine And.intro (by omega) ?_; go_simp)
  apply Ar F; go_simp; refine ⟨l.length - (k + 1), by omega, k + 1, out ++ gap ++ u, ?_, by omega, by omega, by rw [decide_eq_false (by omega)]; simpa [ByteArray.append_assoc] using hg⟩; go_simp
 have hkI : ¬ (k : Int) < (l.length : Int) := by omega
 rw [List.drop_eq_nil_of_le (by rw [List.length_map]; omega), show lsB gap (decide (k = 0)) [] = ⟨#[]⟩ by cases decide (k = 0) <;> rfl, ape] at hg; subst hg; apply Ar F; go_simp; (repeat apply Aq); refine Af (by go_simp) ?_; apply Ae; go_simp; apply Ar F; go_simp; apply Au; go_simp
end Go.Proofs.YtakncilicoefdaaGreatDoor
