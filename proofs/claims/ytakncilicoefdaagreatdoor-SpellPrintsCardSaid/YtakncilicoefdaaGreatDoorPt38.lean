/- Lemmas and contracts. Conditions: those that each lemma names. -/
import Derived.Test.YtakncilicoefdaaGreatDoorPt35
set_option maxRecDepth 100000
set_option maxHeartbeats 8000000
namespace Go.Proofs.YtakncilicoefdaaGreatDoor
open Go Go.RowKit Go.Proofs Th
set_option maxRecDepth 8000
attribute [local go_sem] sel
theorem OV : Bx Tryz.prog 88 = none := by kernel_rfl
theorem O4 : FN Tryz.prog 88 = some (27, 1, List.replicate 27 (.int .i64 0)) := by kernel_rfl
theorem Uf : GD 27 1 = [⟨0, 1, false⟩, ⟨1, 1, false⟩, ⟨2, 1, false⟩, ⟨3, 1, false⟩, ⟨4, 1, false⟩, ⟨5, 1, false⟩, ⟨6, 1, false⟩, ⟨7, 1, false⟩, ⟨8, 1, false⟩, ⟨9, 1, false⟩, ⟨10, 1, false⟩, ⟨11, 1, false⟩, ⟨12, 1, false⟩, ⟨13, 1, false⟩, ⟨14, 1, false⟩, ⟨15, 1, false⟩, ⟨16, 1, false⟩, ⟨17, 1, false⟩, ⟨18, 1, false⟩, ⟨19, 1, false⟩, ⟨20, 1, false⟩, ⟨21, 1, false⟩, ⟨22, 1, false⟩, ⟨23, 1, false⟩, ⟨24, 1, false⟩, ⟨25, 1, false⟩, ⟨26, 1, false⟩] := rfl
attribute [local go_sem] OV O4 Uf List.replicate
variable {G : World → CS → Prop}
theorem Wf (gk : GK G) (t1 : ByteArray) (m1 q1 : Int) (l1 : List NJ) (b1 : List ByteArray) : ACalls Tryz.prog G 46 none [.agg (Ag (.mk 4 t1 m1 q1 l1 b1))] (.ret (bI (AB (.mk 4 t1 m1 q1 l1 b1))) []) := by
 by_cases hlen : l1.length ≤ 140737488351232
 case neg => exact ⟨⟨_, Tryz.func46, rfl, rfl⟩, fun W S p us hG hSb hrc hrep => absurd (by have := Bh (i := 4) hrep rfl; rwa [AF] at this) hlen⟩
 by_cases hlen2 : b1.length ≤ 140737488351232
 case neg => exact ⟨⟨_, Tryz.func46, rfl, rfl⟩, fun W S p us hG hSb hrc hrep => absurd (by have := Bh (i := 5) hrep rfl; rwa [List.length_map] at this) hlen2⟩
 have hr : ∀ r : List ByteArray, ¬ ((r.length : Int) + 1 = 0) := fun r => by omega
 have hr2 : ∀ r : List ByteArray, (0 : Int) < (r.length : Int) + 1 := fun r => by omega
 obtain ⟨z, hz⟩ : ∃ z, AB (.mk 4 t1 m1 q1 l1 b1) = z := ⟨_, rfl⟩
 rw [hz]; obtain ⟨ev, he⟩ : ∃ ev, Cm l1 = ev := ⟨_, rfl⟩
 refine ACalls.enter Tryz.func46 rfl rfl gk Tryz.ntmps46 fun X F => ?_
 by_cases hA : l1.length < 3
 ·have hAI : (l1.length : Int) < 3 := by omega
  have hz2 : z = false := by rw [← hz]; simp [AB, Ai]; intros; omega
  subst hz2;(iterate 4 apply Ar F;go_simp);(repeat apply Aq);refine Ah F [0, 1, 2, 3, 4, 5, 6, 7, 8] [9, 10, 11, 12, 13, 14, 15, 16, 17, 18, 19, 20, 21, 22, 23] (by rfl) ?_;go_simp;apply lK 8;go_simp;refine Ac ?_;go_simp;(repeat apply Aq);refine At (by go_simp) ?_;apply Ar F;go_simp;apply Au;go_simp
 have hAI : ¬ (l1.length : Int) < 3 := by omega
 (iterate 4 apply Ar F;go_simp);(repeat apply Aq);refine Ah F [0, 1, 2, 3, 4, 5, 6, 7, 8] [9, 10, 11, 12, 13, 14, 15, 16, 17, 18, 19, 20, 21, 22, 23] (by rfl) ?_;go_simp;apply lK 8;go_simp;refine Ac ?_;go_simp;(repeat apply Aq);refine Af (by go_simp) ?_;apply As;go_simp;by_cases hm0 : m1 = 0
 ·subst hm0
  by_cases hq0 : q1 = 0
  ·subst hq0
   (repeat apply Aq); refine Ah F [0, 1, 2, 3, 4, 5, 6, 7, 8] [9, 10, 11, 12, 13, 14, 15, 16, 17, 18, 19] (by rfl) ?_; go_simp; refine Ac ?_; go_simp; (repeat apply Aq); refine Af (by go_simp) ?_; apply As; go_simp; rcases b1 with _ | ⟨x, r⟩
   ·(repeat apply Aq)
    refine Ah F [0, 1, 2, 3, 4, 5, 6, 7] [8, 9, 10, 11, 12, 13] (by rfl) ?_;go_simp;refine Ac ?_;go_simp;(repeat apply Aq);refine Af (by go_simp) ?_;apply As;go_simp;apply Ar F;go_simp;(repeat apply Aq);apply Ab;(iterate 2 apply Ar F;go_simp;(repeat apply Aq);refine Af (by go_simp) ?_);apply Ar F;go_simp;(repeat apply Aq);refine At (by go_simp) ?_;apply Ar F;go_simp;(repeat apply Aq);apply Ab;(repeat apply Aq);refine A9 [1, 3, 6] [1000, 1] (by decide) (fun g t => ∃ k : Nat, t = mkS [(1, .ptr 1 0), (3, .im (iI l1.length)), (6, .im (iI k))] [(1000, .none), (1, .box ((Ag (.mk 4 t1 0 0 l1 [])).map .im))] ∧ g = l1.length - k ∧ k ≤ l1.length + 1 ∧ Cm (l1.drop k) = ev) (l1.length) ?_ ?_
    ·refine ⟨0, ?_, by omega, by omega, he⟩
     go_simp
    rintro g t ⟨k, rfl, rfl, hk, hg⟩; by_cases hkt : k < l1.length
    ·have hkI : (k : Int) < (l1.length : Int) := by omega
     have hrk := rng ((k : Int) + 2) (by omega); rw [LT hkt] at hg; obtain ⟨⟨k5, t5, m5, q5, l5, b5⟩, hx⟩ : ∃ x, l1[k] = x := ⟨_, rfl⟩
     apply Ar F; go_simp; (repeat apply Aq); refine At (by go_simp) ?_; apply As; go_simp; (repeat apply Aq); apply Ab; by_cases h3 : k5 = 3
     ·subst h3
      rw [show decide (Av l1[k] = 3) = true by rw [hx]; rfl, Bool.true_and] at hg; apply Ar F; go_simp; (repeat apply Aq); refine Af (by go_simp) ?_; apply As; go_simp; apply Ar F; go_simp; refine ⟨l1.length - (k + 2), by omega, k + 2, ?_, by omega, by omega, hg⟩; go_simp
     rw [show decide (Av l1[k] = 3) = false by rw [hx]; exact decide_eq_false h3, Bool.false_and] at hg; subst hg; have hz2 : z = false := by rw [← hz]; simp [AB, Ai, he]
     subst hz2; apply Ar F; go_simp; (repeat apply Aq); refine At (by go_simp) ?_; apply Ar F; go_simp; apply Au; go_simp
    have hkI : ¬ (k : Int) < (l1.length : Int) := by omega
    rw [H4 (by omega)] at hg; subst hg; apply Ar F; go_simp; (repeat apply Aq); refine Af (by go_simp) ?_; apply Ae; go_simp; by_cases hs : t1 = ⟨#[]⟩
    ·subst hs
     by_cases hm : l1.length % 2 = 1
     ·have hmI : (l1.length : Int).tmod 2 = 1 := by rw [Int.tmod_eq_emod_of_nonneg (by omega)]; omega
      have h3n : 3 ≤ l1.length := by omega
      have hz2 : z = true := by rw [← hz]; simp [AB, Ax, Am, Ai, he, hm, h3n]
      subst hz2; apply Ar F; go_simp; apply Au; go_simp
     have hmI : ¬ (l1.length : Int).tmod 2 = 1 := by rw [Int.tmod_eq_emod_of_nonneg (by omega)]; omega
     have hz2 : z = false := by rw [← hz]; simp [AB, Ai, hm]
     subst hz2; apply Ar F; go_simp; apply Au; go_simp
    have hz2 : z = false := by rw [← hz]; simp [AB, Ax, Am, hs]
    subst hz2; apply Ar F; go_simp; apply Au; go_simp
   have hz2 : z = false := by rw [← hz]; simp [AB, Ax, Am, *]
   subst hz2; (repeat apply Aq); refine Ah F [0, 1, 2, 3, 4, 5, 6, 7] [8, 9, 10, 11, 12, 13] (by rfl) ?_; go_simp; refine Ac ?_; go_simp; (repeat apply Aq); refine At (by go_simp) ?_; apply Ar F; go_simp; apply Au; go_simp
  have hz2 : z = false := by rw [← hz]; simp [AB, Ax, Am, *]
  subst hz2; (repeat apply Aq); refine Ah F [0, 1, 2, 3, 4, 5, 6, 7, 8] [9, 10, 11, 12, 13, 14, 15, 16, 17, 18, 19] (by rfl) ?_; go_simp; refine Ac ?_; go_simp; (repeat apply Aq); refine At (by go_simp) ?_; apply Ar F; go_simp; apply Au; go_simp
 have hz2 : z = false := by rw [← hz]; simp [AB, Ax, Am, *]
 subst hz2; (repeat apply Aq); refine Ah F [0, 1, 2, 3, 4, 5, 6, 7, 8] [9, 10, 11, 12, 13, 14, 15, 16, 17, 18, 19] (by rfl) ?_; go_simp; refine Ac ?_; go_simp; (repeat apply Aq); refine At (by go_simp) ?_; apply Ar F; go_simp; apply Au; go_simp
theorem Vh (gk : GK G) (hR : ∀ s : ByteArray, ACalls Tryz.prog G 101 none [sI s] (.ret (bI (inB words13 s)) [])) (t1 : ByteArray) (m1 q1 : Int) (l1 : List NJ) (b1 : List ByteArray) (hs : t1.size ≤ 100000000) (hb : ∀ x ∈ b1, x.size ≤ 100000000) : ACalls Tryz.prog G 46 none [.agg (Ag (.mk 24 t1 m1 q1 l1 b1))] (.ret (bI (AB (.mk 24 t1 m1 q1 l1 b1))) []) := by
 have cf := NN gk hR t1 hs; by_cases hlen : l1.length ≤ 140737488351232
 case neg => exact ⟨⟨_, Tryz.func46, rfl, rfl⟩, fun W S p us hG hSb hrc hrep => absurd (by have := Bh (i := 4) hrep rfl; rwa [AF] at this) hlen⟩
 by_cases hlen2 : b1.length ≤ 140737488351232
 case neg => exact ⟨⟨_, Tryz.func46, rfl, rfl⟩, fun W S p us hG hSb hrc hrep => absurd (by have := Bh (i := 5) hrep rfl; rwa [List.length_map] at this) hlen2⟩
 have hr : ∀ r : List ByteArray, ¬ ((r.length : Int) + 1 = 0) := fun r => by omega
 have hr2 : ∀ r : List ByteArray, (0 : Int) < (r.length : Int) + 1 := fun r => by omega
 obtain ⟨z, hz⟩ : ∃ z, AB (.mk 24 t1 m1 q1 l1 b1) = z := ⟨_, rfl⟩
 rw [hz]; obtain ⟨pa, hpa⟩ : ∃ pa, b1.all Dw = pa := ⟨_, rfl⟩
 refine ACalls.enter Tryz.func46 rfl rfl gk Tryz.ntmps46 fun X F => ?_
 by_cases hA : l1.length < 2
 ·have hAI : (l1.length : Int) < 2 := by omega
  have hz2 : z = false := by rw [← hz]; simp [AB, Ai]; intros; omega
  subst hz2;(iterate 4 apply Ar F;go_simp);(repeat apply Aq);refine Ah F [0, 1, 2, 3, 4, 5, 6, 7, 8] [9, 10, 11, 12, 13, 14, 15, 16, 17, 18, 19, 20, 21, 22, 23] (by rfl) ?_;go_simp;apply lK 8;go_simp;refine Ac ?_;go_simp;(repeat apply Aq);refine At (by go_simp) ?_;apply Ar F;go_simp;apply Au;go_simp
 have hAI : ¬ (l1.length : Int) < 2 := by omega
 by_cases hB : 2 < l1.length
 ·have hBI : (2 : Int) < (l1.length : Int) := by omega
  have hz2 : z = false := by rw [← hz]; simp [AB, Ai]; intros; omega
  subst hz2;(iterate 4 apply Ar F;go_simp);(repeat apply Aq);refine Ah F [0, 1, 2, 3, 4, 5, 6, 7, 8] [9, 10, 11, 12, 13, 14, 15, 16, 17, 18, 19, 20, 21, 22, 23] (by rfl) ?_;go_simp;apply lK 8;go_simp;refine Ac ?_;go_simp;(repeat apply Aq);refine At (by go_simp) ?_;apply Ar F;go_simp;apply Au;go_simp
 have hBI : ¬ (2 : Int) < (l1.length : Int) := by omega
 have hl2 : l1.length = 2 := by omega
 (iterate 4 apply Ar F;go_simp);(repeat apply Aq);refine Ah F [0, 1, 2, 3, 4, 5, 6, 7, 8] [9, 10, 11, 12, 13, 14, 15, 16, 17, 18, 19, 20, 21, 22, 23] (by rfl) ?_;go_simp;apply lK 8;go_simp;refine Ac ?_;go_simp;(repeat apply Aq);refine Af (by go_simp) ?_;apply As;go_simp;by_cases hm0 : m1 = 0
 ·subst hm0
  by_cases hq0 : q1 = 0
  ·subst hq0
   (repeat apply Aq);refine Ah F [0, 1, 2, 3, 4, 5, 6, 7, 8] [9, 10, 11, 12, 13, 14, 15, 16, 17, 18, 19] (by rfl) ?_;go_simp;refine Ac ?_;go_simp;(repeat apply Aq);refine Af (by go_simp) ?_;apply As;go_simp;(repeat apply Aq);refine Ah F [0, 1, 2, 3, 4, 5, 6, 7] [8, 9, 10, 11, 12, 13] (by rfl) ?_;go_simp;refine Ac ?_;go_simp;(repeat apply Aq);refine Af (by go_simp) ?_;apply As;go_simp;apply Ar F;go_simp;(repeat apply Aq);apply Ab;(iterate 12 apply Ar F;go_simp;(repeat apply Aq);refine Af (by go_simp) ?_);apply Ar F;go_simp;(repeat apply Aq);refine At (by go_simp) ?_;apply Ar F;go_simp;(repeat apply Aq);apply Ab;(repeat apply Aq);refine A9 [1, 8] [1000, 1] (by decide) (fun g t => ∃ k : Nat, t = mkS [(1, .ptr 1 0), (8, .im (iI k))] [(1000, .none), (1, .box ((Ag (.mk 24 t1 0 0 l1 b1)).map .im))] ∧ g = b1.length - k ∧ k ≤ b1.length ∧ (b1.drop k).all Dw = pa) (b1.length) ?_ ?_
   ·refine ⟨0, ?_, by omega, by omega, hpa⟩
    go_simp
   rintro g t ⟨k, rfl, rfl, hk, hg⟩; by_cases hkt : k < b1.length
   ·have hkI : (k : Int) < (b1.length : Int) := by omega
    have hrk := rng ((k : Int) + 1) (by omega); have hsz := hb b1[k] (List.getElem_mem hkt); have cf2 := NN gk hR b1[k] hsz; have cn := KX (G := G) (C0 b1[k]) (Nat.le_trans (by unfold C0; rw [ByteArray.size_extract]; omega) hsz); rw [List.drop_eq_getElem_cons hkt, List.all_cons] at hg; have hpb : Dw b1[k] = (CK b1[k] || (decide (b1[k].data.toList.head? = some 36) && AU (C0 b1[k]).data.toList)) := by unfold Dw; rw [Ia]
    rw [hpb] at hg; clear hpb; obtain ⟨v, hv⟩ : ∃ v, b1[k] = v := ⟨_, rfl⟩
    rw [hv] at hg cf2 cn hsz; unfold C0 at cn; have hnt : B4 (v.extract 1 v.size) = AU (C0 v).data.toList := rfl; rw [hnt] at cn; have hshort : v.size < 2 → AU (C0 v).data.toList = false := fun h => by
     have : (C0 v).data.toList = [] := List.eq_nil_of_length_eq_zero (by rw [Ia, List.length_tail, Al]; omega); rw [this]; rfl
    have hat : 2 ≤ v.size → ∃ c, v.data.toList[0]? = some c ∧ v.data.toList.head? = some c := fun h => by
     have := Iw (s := v) (k := 0) (by omega); exact ⟨_, this, by rw [List.head?_eq_getElem?]; exact this⟩
    generalize AU (C0 v).data.toList = nn at cn hg hshort; generalize CK v = ff at cf2 hg; clear hnt; apply Ar F; go_simp; (repeat apply Aq); refine At (by go_simp) ?_; apply As; go_simp; (repeat apply Aq); apply Ab; cases ff
    ·by_cases hv2 : v.size < 2
     ·have hv2I : (v.size : Int) < 2 := by omega
      rw [hshort hv2] at hg; simp only [Bool.and_false, Bool.false_or, Bool.false_and] at hg; subst hg; have hz2 : z = false := by rw [← hz]; simp [AB, Ai, hpa]
      subst hz2;apply Ar F;go_simp;(repeat apply Aq);refine Ah F [0, 1, 2, 3] [4, 5, 6, 7, 8, 9, 10, 11, 12, 13, 14, 15, 16, 17, 18] (by rfl) ?_;go_simp;refine ⟨_, cf2, ?_⟩;(iterate 3 go_simp;apply lK 4);go_simp;refine Ac ?_;go_simp;(repeat apply Aq);refine At (by go_simp) ?_;apply Ar F;go_simp;apply Au;go_simp
     have hv2I : ¬ (v.size : Int) < 2 := by omega
     have h1v : (1 : Int) ≤ (v.size : Int) := by omega
     have h1n : 1 ≤ v.size := by omega
     have h0n : 0 < v.size := by omega
     obtain ⟨c, hc0, hc1⟩ := hat (by omega); rw [hc1] at hg; have hcd : v.data[0]'h0n = c := by
      have := Iw h0n; rw [hc0] at this; injection this with this; exact this.symm
     by_cases hc36 : c = 36
     ·subst hc36
      rw [decide_eq_true rfl, Bool.true_and] at hg; cases nn
      ·apply Ar F
       go_simp;(repeat apply Aq);refine Ah F [0, 1, 2, 3] [4, 5, 6, 7, 8, 9, 10, 11, 12, 13, 14, 15, 16, 17, 18] (by rfl) ?_;go_simp;refine ⟨_, cf2, ?_⟩;(iterate 3 go_simp;apply lK 4);go_simp;refine ⟨_, cn, ?_⟩;go_simp;refine Ac ?_;go_simp;simp only [Bool.false_or, Bool.false_and] at hg;subst hg;have hz2 : z = false := by rw [← hz];simp [AB, Ai, hpa]
       subst hz2; (repeat apply Aq); refine At (by go_simp) ?_; apply Ar F; go_simp; apply Au; go_simp
      apply Ar F;go_simp;(repeat apply Aq);refine Ah F [0, 1, 2, 3] [4, 5, 6, 7, 8, 9, 10, 11, 12, 13, 14, 15, 16, 17, 18] (by rfl) ?_;go_simp;refine ⟨_, cf2, ?_⟩;(iterate 3 go_simp;apply lK 4);go_simp;refine ⟨_, cn, ?_⟩;go_simp;refine Ac ?_;go_simp;simp only [Bool.false_or, Bool.true_and] at hg;(repeat apply Aq);refine Af (by go_simp) ?_;apply As;go_simp;apply Ar F;go_simp;refine ⟨b1.length - (k + 1), by omega, k + 1, ?_, by omega, by omega, hg⟩;go_simp
     have hc36I : ¬ (c.toNat : Int) = 36 := fun h => hc36 (UInt8.toNat_inj.1 (by show c.toNat = 36; omega))
     rw [decide_eq_false (fun h => hc36 (by injection h))] at hg; simp only [Bool.false_or, Bool.false_and] at hg; subst hg; have hz2 : z = false := by rw [← hz]; simp [AB, Ai, hpa]
     subst hz2;apply Ar F;go_simp;(repeat apply Aq);refine Ah F [0, 1, 2, 3] [4, 5, 6, 7, 8, 9, 10, 11, 12, 13, 14, 15, 16, 17, 18] (by rfl) ?_;go_simp;refine ⟨_, cf2, ?_⟩;(iterate 3 go_simp;apply lK 4);go_simp;refine Ac ?_;go_simp;(repeat apply Aq);refine At (by go_simp) ?_;apply Ar F;go_simp;apply Au;go_simp
    apply Ar F;go_simp;(repeat apply Aq);refine Ah F [0, 1, 2, 3] [4, 5, 6, 7, 8, 9, 10, 11, 12, 13, 14, 15, 16, 17, 18] (by rfl) ?_;go_simp;refine ⟨_, cf2, ?_⟩;(iterate 3 go_simp;apply lK 4);go_simp;refine Ac ?_;go_simp;simp only [Bool.true_or, Bool.true_and] at hg;(repeat apply Aq);refine Af (by go_simp) ?_;apply As;go_simp;apply Ar F;go_simp;refine ⟨b1.length - (k + 1), by omega, k + 1, ?_, by omega, by omega, hg⟩;go_simp
   have hkI : ¬ (k : Int) < (b1.length : Int) := by omega
   rw [List.drop_eq_nil_of_le (by omega)] at hg; have hpt : pa = true := by rw [← hg]; rfl
   subst hpt; have hz2 : z = CK t1 := by rw [← hz]; simp [AB, Ax, Am, Ai, hpa, hl2]
   subst hz2; apply Ar F; go_simp; (repeat apply Aq); refine Af (by go_simp) ?_; apply Ae; go_simp; apply Ar F; go_simp; refine ⟨_, cf, ?_⟩; go_simp; apply Au; go_simp
  have hz2 : z = false := by rw [← hz]; simp [AB, Ax, Am, *]
  subst hz2; (repeat apply Aq); refine Ah F [0, 1, 2, 3, 4, 5, 6, 7, 8] [9, 10, 11, 12, 13, 14, 15, 16, 17, 18, 19] (by rfl) ?_; go_simp; refine Ac ?_; go_simp; (repeat apply Aq); refine At (by go_simp) ?_; apply Ar F; go_simp; apply Au; go_simp
 have hz2 : z = false := by rw [← hz]; simp [AB, Ax, Am, *]
 subst hz2; (repeat apply Aq); refine Ah F [0, 1, 2, 3, 4, 5, 6, 7, 8] [9, 10, 11, 12, 13, 14, 15, 16, 17, 18, 19] (by rfl) ?_; go_simp; refine Ac ?_; go_simp; (repeat apply Aq); refine At (by go_simp) ?_; apply Ar F; go_simp; apply Au; go_simp
open Go Go.RowKit Go.Proofs Th
set_option maxRecDepth 8000
variable {G : World → CS → Prop}
def GF (p : NJ → Bool) : List NJ → Nat → Int
 | [], _ => -1
 | x :: r, k => if p x = true then (k : Int) else GF p r (k + 1)
theorem O5 (p : NJ → Bool) : ∀ (l : List NJ) (k : Nat), decide (0 ≤ GF p l k) = l.any p
 | [], _ => rfl
 | x :: r, k => by
  unfold GF; by_cases h : p x = true
  ·rw [if_pos h, List.any_cons, h]; exact decide_eq_true (by omega)
  rw [if_neg h, O5 p r (k + 1), List.any_cons]; cases hp : p x with
  | true => exact absurd hp h
  | false => rfl
attribute [local go_sem] FX
theorem RF (gk : GK G) (l : List NJ) (g o : Nat) (p : NJ → Bool) (IH : ∀ x ∈ l, ACalls Tryz.prog G 45 none [.agg (Ag x), .v (.pointer (some ⟨g, o, none⟩))] (.ret (bI (p x)) [])) : ACalls Tryz.prog G 66 none [.sl (AJ l) false, .v (FX 45 g o)] (.ret (iI (GF p l 0)) []) := by
 by_cases hlen : l.length ≤ 140737488351232
 case neg => exact ⟨⟨_, Tryz.func66, rfl, rfl⟩, fun W S p us hG hSb hrc hrep => absurd (by have := Ez hrep; rwa [AF] at this) hlen⟩
 obtain ⟨z, hz⟩ : ∃ z, GF p l 0 = z := ⟨_, rfl⟩
 rw [hz]; refine ACalls.enter Tryz.func66 rfl rfl gk Tryz.ntmps66 fun X F => ?_
 apply Ar F; go_simp; apply Ar F; go_simp; (repeat apply Aq); apply Ab; (repeat apply Aq); refine A9 [0, 1, 6, 7, 8] [1000] (by decide) (fun g2 t => ∃ k : Nat, t = mkS [(0, .im (.sl (AJ l) false)), (1, .im (.v (FX 45 g o))), (6, .im (.sl (AJ l) false)), (7, .im (iI l.length)), (8, .im (iI k))] [(1000, .none)] ∧ g2 = l.length - k ∧ k ≤ l.length ∧ GF p (l.drop k) k = z) (l.length) ?_ ?_
 ·refine ⟨0, ?_, by omega, by omega, hz⟩
  go_simp
 rintro g2 t ⟨k, rfl, rfl, hk, hg⟩; by_cases hkt : k < l.length
 ·have hkI : (k : Int) < (l.length : Int) := by omega
  have hrk := rng ((k : Int) + 1) (by omega); have cp := IH l[k] (List.getElem_mem hkt); rw [List.drop_eq_getElem_cons hkt] at hg; unfold GF at hg; generalize p l[k] = pv at cp hg; obtain ⟨⟨k5, t5, m5, q5, l5, b5⟩, hx5⟩ : ∃ x, l[k] = x := ⟨_, rfl⟩
  rw [hx5] at cp; apply Ar F; go_simp; (repeat apply Aq); refine At (by go_simp) ?_; apply As; go_simp; (repeat apply Aq); apply Ab; cases pv
  ·apply Ar F
   go_simp; apply Ar F; go_simp; refine ⟨_, cp, ?_⟩; go_simp; rw [if_neg (by decide)] at hg; (repeat apply Aq); refine Af (by go_simp) ?_; apply As; go_simp; apply Ar F; go_simp; refine ⟨l.length - (k + 1), by omega, k + 1, ?_, by omega, by omega, hg⟩; go_simp
  apply Ar F; go_simp; apply Ar F; go_simp; refine ⟨_, cp, ?_⟩; go_simp; rw [if_pos rfl] at hg; subst hg; (repeat apply Aq); refine At (by go_simp) ?_; apply Ar F; go_simp; apply Au; go_simp
 have hkI : ¬ (k : Int) < (l.length : Int) := by omega
 rw [List.drop_eq_nil_of_le (by omega)] at hg; unfold GF at hg; subst hg; apply Ar F; go_simp; (repeat apply Aq); refine Af (by go_simp) ?_; apply Ae; go_simp; apply Ar F; go_simp; apply Au; go_simp
theorem MT (gk : GK G) (l : List NJ) (g o : Nat) (p : NJ → Bool) (IH : ∀ x ∈ l, ACalls Tryz.prog G 45 none [.agg (Ag x), .v (.pointer (some ⟨g, o, none⟩))] (.ret (bI (p x)) [])) : ACalls Tryz.prog G 44 none [.sl (AJ l) false, .v (FX 45 g o)] (.ret (bI (l.any p)) []) := by
 have ci := RF gk l g o p IH; rw [← O5 p l 0]; generalize GF p l 0 = z at *; refine ACalls.enter Tryz.func44 rfl rfl gk Tryz.ntmps44 fun X F => ?_
 apply Ar F; go_simp; apply Ar F; go_simp; refine ⟨_, ci, ?_⟩; go_simp; apply Au; go_simp
theorem U7 (gk : GK G) (d : Nat) (hd : d ≤ 1000) (n : NJ) (cm : ACalls Tryz.prog G 18 none [.agg (Ag n), iI d] (.ret (bI (Ch d n)) [])) : ACalls Tryz.prog G 45 none [.agg (Ag n), .elt [iI ((d + 1 : Nat) : Int)] 0] (.ret (bI (!Ch d n)) []) := by
 generalize Ch d n = mv at cm; have hd1 : ((d + 1 : Nat) : Int) - 1 = (d : Int) := by omega
 have hrd := rng ((d : Int)) (by omega); generalize hD : ((d + 1 : Nat) : Int) = D at *; obtain ⟨k1, t1, m1, q1, l1, b1⟩ := n; refine ACalls.enter Tryz.func45 rfl rfl gk Tryz.ntmps45 fun X F => ?_
 apply Ar F; go_simp; apply Ar F; go_simp; refine ⟨_, cm, ?_⟩; go_simp; apply Au; go_simp
theorem ST (gk : GK G) (d : Nat) (hd : d ≤ 1000) (n : NJ) (g o : Nat) (cm : ACalls Tryz.prog G 18 none [.agg (Ag n), iI d] (.ret (bI (Ch d n)) [])) : ACalls Tryz.prog (GL G g o ((d + 1 : Nat) : Int)) 45 none [.agg (Ag n), .v (.pointer (some ⟨g, o, none⟩))] (.ret (bI (!Ch d n)) []) := by
 obtain ⟨h1, h2⟩ := U7 gk d hd n cm; refine ⟨h1, fun W S p us hG hSb hrc hrep => ?_⟩; obtain ⟨hG1, hS, hc⟩ := hG; refine h2 W S p us hG1 hSb hrc ⟨hrep.1, fun i x u hx hu => ?_⟩; match i, hx with
 | 0, hx => exact hrep.2 0 x u hx hu
 | 1, hx =>
  injection hx with hx; have := Cz (hrep.2 1 _ u rfl hu); subst hx this; exact Rep.elt (off := 0) g o (fun _ => .int .i64 ((d + 1 : Nat) : Int)) (fun x hx => by simp only [List.mem_singleton] at hx; subst hx; rfl) (fun i hi => by
   have : i = 0 := by simpa using hi
   subst this; exact ⟨hS, hc⟩) (fun i x hx => by
   match i, hx with
   | 0, hx => injection hx with hx; rw [← hx]; exact .v _
   | i + 1, hx => exact absurd hx (by simp))
 | i + 2, hx => exact absurd hx (by simp)
end Go.Proofs.YtakncilicoefdaaGreatDoor
