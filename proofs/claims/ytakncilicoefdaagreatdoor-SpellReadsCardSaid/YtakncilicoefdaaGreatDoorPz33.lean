/- Lemmas and contracts. Conditions: those that each lemma names. -/
import Derived.Test.YtakncilicoefdaaGreatDoorPz32
set_option maxRecDepth 100000
set_option maxHeartbeats 4000000
namespace Go.Proofs.YtakncilicoefdaaGreatDoor
open Go Go.RowKit Go.Proofs Th
set_option maxRecDepth 8000
attribute [local go_sem] Et BI IW
variable {G : World → CS → Prop}
def shJ : Nat → NJ → Bool
 | 0, _ => false
 | n + 1, .mk _ _ _ _ l _ => l.all (shJ n)
theorem Kz : ∀ (l : List NJ) (k : Nat), (A6 l)[k]? = (l[k]?).map Al
 | [], _ => rfl
 | a :: r, 0 => rfl
 | a :: r, k + 1 => by rw [A6, List.getElem?_cons_succ, List.getElem?_cons_succ, Kz r k]
theorem GD (l : List NJ) (k : Nat) (h : k < (A6 l).length) : (A6 l)[k] = Al (l[k]'(by rwa [BI] at h)) := by
 have h1 := Kz l k; rw [List.getElem?_eq_getElem h, List.getElem?_eq_getElem (by rwa [BI] at h)] at h1; exact Option.some.inj h1
theorem WX (x : NJ) : shJ 0 x = false := by cases x; rfl
attribute [local go_sem] GD WX
theorem TJ {W : World} {S : CS} {us : List Value} {k : Int} {s : ByteArray} {m e : Int} {l : List NJ} {b : List ByteArray} {x : IV} (h : RepL W S [.agg (Al (.mk k s m e l b)), x] us) : l.length ≤ 140737488351232 := by
 obtain ⟨hlen, hr⟩ := h; rcases us with _ | ⟨u, us⟩
 ·cases hlen
 have h0 := hr 0 _ u rfl rfl; cases h0 with
 | @agg _ vs hl hR =>
  have h6 : vs.length = 6 := by rw [hl, Al]; rfl
  obtain ⟨u4, hu4⟩ : ∃ u4, vs[4]? = some u4 := ⟨_, List.getElem?_eq_getElem (by omega : 4 < vs.length)⟩
  have h4 := hR 4 (.sl (A6 l) false) u4 (by rw [Al]; rfl) hu4; cases h4 with
  | sl _ _ _ _ hl2 => rwa [BI] at hl2
theorem QD (gk : GK G) : ∀ (n : Nat), n ≤ 1000 → ∀ x : NJ, ACalls Tryz.prog G 26 none [.agg (Al x), iI n] (.ret (bI (shJ n x)) []) := by
 intro n; induction n with
 | zero =>
  intro _ x; obtain ⟨k1, s1, m1, q1, l1, b1⟩ := x; refine ACalls.enter Tryz.func26 rfl rfl gk Tryz.ntmps26 fun X F => ?_
  apply Ar F; go_simp; apply Ar F; go_simp; (repeat apply Aq); refine At (by go_simp) ?_; apply Ar F; go_simp; apply Au; go_simp
 | succ n ih =>
  intro hn x; obtain ⟨k1, s1, m1, q1, l1, b1⟩ := x; have hn0 : ¬ (n : Int) + 1 = 0 := by omega
  have hn1 := rng ((n : Int)) (by omega); obtain ⟨b, hb⟩ : ∃ b, l1.all (shJ n) = b := ⟨_, rfl⟩
  have hsh : shJ (n + 1) (.mk k1 s1 m1 q1 l1 b1) = b := hb; rw [hsh]; clear hsh; by_cases hlen : l1.length ≤ 140737488351232
  case neg => exact ⟨⟨_, Tryz.func26, rfl, rfl⟩, fun W S p us hG hSb hrc hrep => absurd (TJ hrep) hlen⟩
  refine ACalls.enter Tryz.func26 rfl rfl gk Tryz.ntmps26 fun X F => ?_
  apply Ar F; go_simp; apply Ar F; go_simp; (repeat apply Aq); refine Af (by go_simp) ?_; apply As; go_simp; apply Ar F; go_simp; (repeat apply Aq); apply Ab; (repeat apply Aq); refine Cb [1, 4, 10, 11, 12] [1000] (by decide) (fun g s => ∃ k : Nat, s = mkS [(1, .im (iI ((n : Int) + 1))), (4, .im (bI false)), (10, .im (.sl (A6 l1) false)), (11, .im (iI l1.length)), (12, .im (iI k))] [] ∧ g = l1.length - k ∧ k ≤ l1.length ∧ (l1.drop k).all (shJ n) = b) (l1.length) ?_ ?_
  ·refine ⟨0, ?_, by omega, by omega, hb⟩
   go_simp
  rintro g s ⟨k, rfl, rfl, hk, h⟩; by_cases hkt : k < l1.length
  ·have hkI : (k : Int) < (l1.length : Int) := by omega
   have hr := rng ((k : Int) + 1) (by omega); obtain ⟨y, hyE⟩ : ∃ y, l1[k] = y := ⟨_, rfl⟩
   rw [List.drop_eq_getElem_cons hkt, List.all_cons, hyE] at h; have cy := ih (by omega) y; obtain ⟨bs, hbs⟩ : ∃ bs, shJ n y = bs := ⟨_, rfl⟩
   rw [hbs] at h cy; clear hbs; obtain ⟨k2, s2, m2, q2, l2, b2⟩ := y; apply Ar F; go_simp; (repeat apply Aq); refine At (by go_simp) ?_; apply As; go_simp; (repeat apply Aq); apply Ab; apply Ar F; go_simp; apply Ar F; go_simp; refine ⟨_, cy, ?_⟩; go_simp; by_cases ht : bs = true
   ·subst ht
    rw [Bool.true_and] at h; (repeat apply Aq); refine Af (by go_simp) ?_; apply As; go_simp; apply Ar F; go_simp; refine ⟨l1.length - (k + 1), by omega, k + 1, ?_, rfl, by omega, h⟩; go_simp
   obtain rfl : bs = false := by cases bs; rfl; exact absurd rfl ht
   obtain rfl : false = b := h; (repeat apply Aq); refine At (by go_simp) ?_; apply Ar F; go_simp; apply Au; go_simp
  have hkI : ¬ (k : Int) < (l1.length : Int) := by omega
  rw [List.drop_eq_nil_of_le (by omega)] at h; obtain rfl : true = b := h; apply Ar F; go_simp; (repeat apply Aq); refine Af (by go_simp) ?_; apply Ae; go_simp; apply Ar F; go_simp; apply Au; go_simp
end Go.Proofs.YtakncilicoefdaaGreatDoor
