/- Lemmas and contracts. Conditions: those that each lemma names. -/
import Derived.Test.YtakncilicoefdaaGreatDoorPz35
set_option maxRecDepth 100000
set_option maxHeartbeats 4000000
namespace Go.Proofs.YtakncilicoefdaaGreatDoor
open Go Go.RowKit Go.Proofs Th
set_option maxRecDepth 8000
attribute [local go_sem] sel
variable {G : World → CS → Prop}
def Hc (s : ByteArray) : ByteArray := s.extract 1 s.size
theorem Lg (s : ByteArray) : Lib.hasPrefix s.data.toList (⟨#[36]⟩ : ByteArray).data.toList = decide (s.data.toList.head? = some 36) := by
 cases h : s.data.toList with
 | nil => rfl
 | cons c r =>
  show (List.isPrefixOf [36] (c :: r)) = _
  by_cases hc : c = 36
  ·subst hc; simp [List.isPrefixOf]
  rw [decide_eq_false (by simpa using hc)]; simp [List.isPrefixOf]; exact fun e => hc e.symm
theorem U4 (s : ByteArray) : (Hc s).data.toList = s.data.toList.tail := by
 unfold Hc; rw [ByteArray.data_extract, Array.toList_extract]; simp [List.extract, ← List.drop_one]; exact List.take_of_length_le (by rw [List.length_drop, Ai]; exact Nat.le_refl _)
theorem T6 (s : ByteArray) : ACalls Tryz.prog G 84 none [sI s, sI ⟨#[36]⟩] (.ret (bI (decide (s.data.toList.head? = some 36))) []) :=
 Ey (us := [.string s, .string ⟨#[36]⟩]) ⟨_, Tryz.func84, rfl, rfl⟩ fun W S _ => (Tryz.strings_HasPrefix s ⟨#[36]⟩ W).mono fun e W' ⟨he, hw⟩ => by
  rw [he, hw, Lg]; exact ⟨rfl, Below.refl _ _⟩
theorem UE (gk : GK G) (a : List ByteArray) (hs : ∀ x ∈ a, x.size ≤ 140737488351232) : ACalls Tryz.prog G 98 none [.sl (a.map fun x => [sI x]) false] (.ret (bI (a.all BO)) []) := by
 by_cases hlen : a.length ≤ 140737488351232
 case neg => exact ⟨⟨_, Tryz.func98, rfl, rfl⟩, fun W S p us hG hSb hrc hrep => absurd (by have := Gu hrep; rwa [List.length_map] at this) hlen⟩
 obtain ⟨z, hz⟩ : ∃ z, a.all BO = z := ⟨_, rfl⟩
 rw [hz]; refine ACalls.enter Tryz.func98 rfl rfl gk Tryz.ntmps98 fun X F => ?_
 apply Ar F; go_simp; apply Ar F; go_simp; (repeat apply Aq); apply Ab; (repeat apply Aq); refine Cb [5, 6, 7] [1000] (by decide) (fun g t => ∃ k : Nat, t = mkS [(5, .im (.sl (a.map fun x => [sI x]) false)), (6, .im (iI a.length)), (7, .im (iI k))] [(1000, .none)] ∧ g = a.length - k ∧ k ≤ a.length ∧ (a.drop k).all BO = z) (a.length) ?_ ?_
 ·refine ⟨0, ?_, by omega, by omega, hz⟩
  go_simp
 rintro g t ⟨k, rfl, rfl, hk, hg⟩; by_cases hkt : k < a.length
 ·have hkI : (k : Int) < (a.length : Int) := by omega
  have hrk := rng ((k : Int) + 1) (by omega); have hsz := hs a[k] (List.getElem_mem hkt); have cf := Rq gk a[k] hsz; have cp := T6 (G := G) a[k]; have cn := MN gk (Hc a[k]) (Nat.le_trans (by unfold Hc; rw [ByteArray.size_extract]; omega) hsz); rw [List.drop_eq_getElem_cons hkt, List.all_cons] at hg; have hpb : BO a[k] = (B7 a[k] || (decide (a[k].data.toList.head? = some 36) && Bc (Hc a[k]).data.toList)) := by unfold BO; rw [U4]
  rw [hpb] at hg; clear hpb; obtain ⟨v, hv⟩ : ∃ v, a[k] = v := ⟨_, rfl⟩
  rw [hv] at hg cf cp cn hsz; unfold Hc at cn; have hnt : Bf (v.extract 1 v.size) = Bc (Hc v).data.toList := rfl; rw [hnt] at cn; have h1v : decide (v.data.toList.head? = some 36) = true → (1 : Int) ≤ (v.size : Int) := fun h => by
   have h2 := of_decide_eq_true h; rcases Nat.eq_zero_or_pos v.size with h0 | h0
   ·have : v.data.toList = [] := List.eq_nil_of_length_eq_zero h0
    rw [this] at h2; cases h2
   omega
  generalize Bc (Hc v).data.toList = nn at cn hg; generalize decide (v.data.toList.head? = some 36) = pp at cp hg h1v; generalize B7 v = ff at cf hg; clear hnt; apply Ar F; go_simp; (repeat apply Aq); refine At (by go_simp) ?_; apply As; go_simp; (repeat apply Aq); apply Ab; cases ff
  ·apply Ar F
   go_simp; (repeat apply Aq); refine AA F [0, 1] [2, 3, 4, 5, 6, 7, 8, 9, 10, 11, 12, 13] (by rfl) ?_; go_simp; refine ⟨_, cf, ?_⟩; go_simp; apply lK 4; go_simp; cases pp
   ·refine ⟨_, cp, ?_⟩
    go_simp; apply lK 5; go_simp; refine Ap ?_; go_simp; simp only [Bool.false_and, Bool.or_false] at hg; subst hg; (repeat apply Aq); refine At (by go_simp) ?_; apply Ar F; go_simp; apply Au; go_simp
   have h1v := h1v rfl; refine ⟨_, cp, ?_⟩; go_simp; apply lK 5; go_simp; cases nn
   ·refine ⟨_, cn, ?_⟩
    go_simp; refine Ap ?_; go_simp; simp only [Bool.false_and, Bool.or_false, Bool.and_false] at hg; subst hg; (repeat apply Aq); refine At (by go_simp) ?_; apply Ar F; go_simp; apply Au; go_simp
   refine ⟨_, cn, ?_⟩; go_simp; refine Ap ?_; go_simp; simp only [Bool.false_or, Bool.true_and] at hg; (repeat apply Aq); refine Af (by go_simp) ?_; apply As; go_simp; apply Ar F; go_simp; refine ⟨a.length - (k + 1), by omega, k + 1, ?_, rfl, by omega, hg⟩; go_simp
  apply Ar F; go_simp; (repeat apply Aq); refine AA F [0, 1] [2, 3, 4, 5, 6, 7, 8, 9, 10, 11, 12, 13] (by rfl) ?_; go_simp; refine ⟨_, cf, ?_⟩; go_simp; apply lK 4; go_simp; apply lK 5; go_simp; refine Ap ?_; go_simp; simp only [Bool.true_and, Bool.true_or] at hg; (repeat apply Aq); refine Af (by go_simp) ?_; apply As; go_simp; apply Ar F; go_simp; refine ⟨a.length - (k + 1), by omega, k + 1, ?_, rfl, by omega, hg⟩; go_simp
 have hkI : ¬ (k : Int) < (a.length : Int) := by omega
 rw [List.drop_eq_nil_of_le (by omega)] at hg; have hz2 : z = true := by rw [← hg]; rfl
 subst hz2; apply Ar F; go_simp; (repeat apply Aq); refine Af (by go_simp) ?_; apply Ae; go_simp; apply Ar F; go_simp; apply Au; go_simp
structure Hd (p : Prop) : Prop where
 out : p
theorem Xa (gk : GK G) (a b : List ByteArray) : ACalls Tryz.prog G 21 none [.sl (a.map fun x => [sI x]) false, .sl (b.map fun x => [sI x]) false] (.ret (bI (decide (a = b))) []) := by
 by_cases hlen : a.length ≤ 140737488351232
 case neg => exact ⟨⟨_, Tryz.func21, rfl, rfl⟩, fun W S p us hG hSb hrc hrep => absurd (by have := Gu hrep; rwa [List.length_map] at this) hlen⟩
 obtain ⟨z, hz⟩ : ∃ z, decide (a = b) = z := ⟨_, rfl⟩
 rw [hz]; by_cases hl : a.length = b.length
 case neg =>
  have hlI : ¬ (a.length : Int) = (b.length : Int) := by omega
  have hz2 : z = false := by rw [← hz]; exact decide_eq_false fun h => hl (by rw [h])
  subst hz2; refine ACalls.enter Tryz.func21 rfl rfl gk Tryz.ntmps21 fun X F => ?_
  apply Ar F; go_simp; apply Ar F; go_simp; (repeat apply Aq); refine At (by go_simp) ?_; apply Ar F; go_simp; apply Au; go_simp
 have hlI : (b.length : Int) = (a.length : Int) := by omega
 refine ACalls.enter Tryz.func21 rfl rfl gk Tryz.ntmps21 fun X F => ?_
 apply Ar F; go_simp; apply Ar F; go_simp; (repeat apply Aq); refine Af (by go_simp) ?_; apply As; go_simp; apply Ar F; go_simp; (repeat apply Aq); apply Ab; (repeat apply Aq); refine Cb [0, 1, 11, 12, 13] [1000] (by decide) (fun g t => ∃ k : Nat, t = mkS [(0, .im (.sl (a.map fun x => [sI x]) false)), (1, .im (.sl (b.map fun x => [sI x]) false)), (11, .im (.sl (a.map fun x => [sI x]) false)), (12, .im (iI a.length)), (13, .im (iI k))] [(1000, .none)] ∧ g = a.length - k ∧ k ≤ a.length ∧ Hd (a.drop k = b.drop k ↔ z = true)) (a.length) ?_ ?_
 ·refine ⟨0, ?_, by omega, by omega, ⟨by rw [← hz]; simp⟩⟩
  go_simp
 rintro g t ⟨k, rfl, rfl, hk, hg⟩; by_cases hkt : k < a.length
 ·have hkI : (k : Int) < (a.length : Int) := by omega
  have hrk := rng ((k : Int) + 1) (by omega); have hkt2 : k < b.length := by omega
  have hg := hg.out; rw [List.drop_eq_getElem_cons hkt, List.drop_eq_getElem_cons hkt2, List.cons_eq_cons] at hg; apply Ar F; go_simp; (repeat apply Aq); refine At (by go_simp) ?_; apply As; go_simp; (repeat apply Aq); apply Ab; by_cases he : a[k] = b[k]
  ·apply Ar F
   go_simp; (repeat apply Aq); refine Ad F [0, 1, 2, 3, 4, 5, 6, 7, 8] [] mixed (by kernel_rfl) ?_; go_simp; (repeat apply Aq); refine Af (by go_simp) ?_; apply As; go_simp; apply Ar F; go_simp; refine ⟨a.length - (k + 1), by omega, k + 1, ?_, by omega, by omega, ⟨fun h => hg.1 ⟨he, h⟩, fun h => (hg.2 h).2⟩⟩; go_simp
  have hz2 : z = false := by cases z with | false => rfl | true => exact absurd (hg.2 rfl).1 he
  subst hz2; apply Ar F; go_simp; (repeat apply Aq); refine Ad F [0, 1, 2, 3, 4, 5, 6, 7, 8] [] mixed (by kernel_rfl) ?_; go_simp; (repeat apply Aq); refine At (by go_simp) ?_; apply Ar F; go_simp; apply Au; go_simp
 have hkI : ¬ (k : Int) < (a.length : Int) := by omega
 have hz2 : z = true := hg.out.1 (by rw [List.drop_eq_nil_of_le (by omega), List.drop_eq_nil_of_le (by omega)]); subst hz2; apply Ar F; go_simp; (repeat apply Aq); refine Af (by go_simp) ?_; apply Ae; go_simp; apply Ar F; go_simp; apply Au; go_simp
open Go Go.RowKit Go.Proofs Th
theorem Zl (f : Nat) : IHP GX f := Yf gkX aO L6 Zc ZQ f
theorem WP (E : Env) (hE : EB E) (f : Nat) (r : PR NJ) (h : AY f E .whole 0 = some r) : ACalls Tryz.prog GX 25 (some (A5 E 0)) [] (CG E r) := Zl f f (Nat.le_refl f) E hE .whole 0 r h
end Go.Proofs.YtakncilicoefdaaGreatDoor
