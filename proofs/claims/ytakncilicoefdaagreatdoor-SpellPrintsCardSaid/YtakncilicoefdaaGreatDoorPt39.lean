/- Lemmas and contracts. Conditions: those that each lemma names. -/
import Derived.Test.YtakncilicoefdaaGreatDoorPt37
import Derived.Test.YtakncilicoefdaaGreatDoorPt38
set_option maxRecDepth 100000
set_option maxHeartbeats 8000000
namespace Go.Proofs.YtakncilicoefdaaGreatDoor
open Go Go.RowKit Go.Proofs Th
set_option maxRecDepth 8000
attribute [local go_sem] sel
attribute [local go_sem] Aa ByteArray.size_append bsz eap ape
variable {G : World → CS → Prop}
theorem QD (gap : ByteArray) : ∀ (ts : List ByteArray) (out : ByteArray), out.size ≤ (BK gap out ts).size
 | [], out => Nat.le_refl _
 | t :: r, out => by
  have := QD gap r ((if out = ⟨#[]⟩ then out else out ++ gap) ++ t); refine Nat.le_trans ?_ this; rw [ByteArray.size_append]; split
  ·omega
  rw [ByteArray.size_append]; omega
theorem Fa (gk : GK G) (l : List NJ) (gap : ByteArray) (ht : ∀ x ∈ l, AE G x) (hs : ∀ x ∈ l, (spJ x).size ≤ 10000000) (hgp : gap.size ≤ 100) (hz : (BK gap ⟨#[]⟩ (l.map spJ)).size ≤ 10000000) : ACalls Tryz.prog G 34 none [.sl (AJ l) false, sI gap] (.ret (sI (BK gap ⟨#[]⟩ (l.map spJ))) []) := by
 by_cases hlen : l.length ≤ 140737488351232
 case neg => exact ⟨⟨_, Tryz.func34, rfl, rfl⟩, fun W S p us hG hSb hrc hrep => absurd (by have := Ez hrep; rwa [AF] at this) hlen⟩
 obtain ⟨z, hJ0⟩ : ∃ z, BK gap ⟨#[]⟩ (l.map spJ) = z := ⟨_, rfl⟩
 rw [hJ0] at hz ⊢; refine ACalls.enter Tryz.func34 rfl rfl gk Tryz.ntmps34 fun X F => ?_
 apply Ar F; go_simp; apply Ar F; go_simp; (repeat apply Aq); refine SI (t1 := 5) (t2 := 3) (b1 := 5) (b2 := 3) (d1 := 9) (d2 := 6) (k1 := 7) (k2 := 2) F rfl ⟨rfl, rfl, rfl, by decide⟩ ⟨rfl, rfl, rfl, by decide⟩ ⟨⟨by go_simp, ⟨_, rfl⟩⟩, by go_simp, ⟨_, rfl⟩⟩ fun p1 p2 => ?_
 go_simp; apply Ar F; go_simp; (repeat apply Aq); apply Ab; (repeat apply Aq); refine A9 [2, 5, 6, 7, 10, 11, 12] [1000, 3, 5] (by decide) (fun g t => ∃ (k : Nat) (out : ByteArray), t = mkS [(2, .pin 3 p2), (5, .ptr 5 0), (6, .im (.v (D9 57 p1 p2))), (7, .pin 5 p1), (10, .im (.sl (AJ l) false)), (11, .im (iI l.length)), (12, .im (iI k))] [(1000, .none), (3, .box [.im (sI gap)]), (5, .box [.im (sI out)])] ∧ g = l.length - k ∧ k ≤ l.length ∧ BK gap out ((l.map spJ).drop k) = z) (l.length) ?_ ?_
 ·refine ⟨0, ⟨#[]⟩, ?_, by omega, by omega, hJ0⟩
  go_simp
 rintro g t ⟨k, out, rfl, rfl, hk, hg⟩; have ho := QD gap ((l.map spJ).drop k) out; rw [hg] at ho; by_cases hkt : k < l.length
 ·have hkI : (k : Int) < (l.length : Int) := by omega
  have hrk := rng ((k : Int) + 1) (by omega); have hu := hs l[k] (List.getElem_mem hkt); have cx := ht l[k] (List.getElem_mem hkt); unfold AE at cx; rw [List.drop_eq_getElem_cons (by simpa using hkt), List.getElem_map] at hg; generalize spJ l[k] = u at *; obtain ⟨⟨k5, t5, m5, q5, l5, b5⟩, hx5⟩ : ∃ x, l[k] = x := ⟨_, rfl⟩
  rw [hx5] at cx; replace hg : BK gap (Es gap out u) ((l.map spJ).drop (k + 1)) = z := hg; apply Ar F; go_simp; (repeat apply Aq); refine At (by go_simp) ?_; apply As; go_simp; (repeat apply Aq); apply Ab; apply Ar F; go_simp; (repeat apply Aq); refine VM (tc := 16) (ts := 18) (k1 := 7) (k2 := 2) (b1 := 5) (b2 := 3) (p1 := p1) (p2 := p2) (d := 19) F [_, _, _] gap out u rfl ⟨rfl, rfl, rfl, rfl, rfl, by decide⟩ ?_; go_simp; refine ⟨_, cx, ?_⟩; go_simp; refine ⟨⟨by go_simp, by go_simp, by go_simp, by go_simp, by go_simp, by go_simp, by decide, ⟨by omega, by omega⟩, by omega⟩, ?_⟩; go_simp; apply Ar F; go_simp; refine ⟨l.length - (k + 1), by omega, k + 1, Es gap out u, ?_, by omega, by omega, hg⟩; go_simp
 have hkI : ¬ (k : Int) < (l.length : Int) := by omega
 rw [List.drop_eq_nil_of_le (by rw [List.length_map]; omega)] at hg; replace hg : out = z := hg; subst hg; apply Ar F; go_simp; (repeat apply Aq); refine Af (by go_simp) ?_; apply Ae; go_simp; apply Ar F; go_simp; apply Au; go_simp
open Go Go.RowKit Go.Proofs Th
set_option maxRecDepth 8000
attribute [local go_sem] OV O4 Uf List.replicate
variable {G : World → CS → Prop}
theorem V5 (gk : GK G) (t1 : ByteArray) (m1 q1 : Int) (l1 : List NJ) (b1 : List ByteArray) : ACalls Tryz.prog G 46 none [.agg (Ag (.mk 6 t1 m1 q1 l1 b1))] (.ret (bI (AB (.mk 6 t1 m1 q1 l1 b1))) []) := by
 by_cases hlen : l1.length ≤ 140737488351232
 case neg => exact ⟨⟨_, Tryz.func46, rfl, rfl⟩, fun W S p us hG hSb hrc hrep => absurd (by have := Bh (i := 4) hrep rfl; rwa [AF] at this) hlen⟩
 by_cases hlen2 : b1.length ≤ 140737488351232
 case neg => exact ⟨⟨_, Tryz.func46, rfl, rfl⟩, fun W S p us hG hSb hrc hrep => absurd (by have := Bh (i := 5) hrep rfl; rwa [List.length_map] at this) hlen2⟩
 have hr : ∀ r : List ByteArray, ¬ ((r.length : Int) + 1 = 0) := fun r => by omega
 have hr2 : ∀ r : List ByteArray, (0 : Int) < (r.length : Int) + 1 := fun r => by omega
 obtain ⟨z, hz⟩ : ∃ z, AB (.mk 6 t1 m1 q1 l1 b1) = z := ⟨_, rfl⟩
 rw [hz]; have hrb := rng ((b1.length : Int) + 1) (by omega); obtain ⟨ls, hls, hfl⟩ := Ly (K := 6) (by decide) (by decide) t1 m1 q1 l1 b1; obtain ⟨ms, hms, hfm⟩ := NF (K := 6) (by decide) (by decide) t1 m1 q1 l1 b1; obtain rfl : ls = 2 := by simpa using hls.symm
 obtain rfl : ms = 3 := by simpa using hms.symm
 clear hls hms; refine ACalls.enter Tryz.func46 rfl rfl gk Tryz.ntmps46 fun X F => ?_
 by_cases hA : (l1.length : Int) < 2
 ·have hz2 : z = false := by rw [← hz]; unfold AB; rw [show Ai (.mk 6 t1 m1 q1 l1 b1) = false from hfl hA]; exact Bool.and_false _
  subst hz2;(iterate 4 apply Ar F;go_simp);(repeat apply Aq);refine Ah F [0, 1, 2, 3, 4, 5, 6, 7, 8] [9, 10, 11, 12, 13, 14, 15, 16, 17, 18, 19, 20, 21, 22, 23] (by rfl) ?_;go_simp;apply lK 8;go_simp;refine Ac ?_;go_simp;(repeat apply Aq);refine At (by go_simp) ?_;apply Ar F;go_simp;apply Au;go_simp
 by_cases hB : (3 : Int) < (l1.length : Int)
 ·have hz2 : z = false := by rw [← hz]; unfold AB; rw [show Ai (.mk 6 t1 m1 q1 l1 b1) = false from hfm hB]; exact Bool.and_false _
  subst hz2;(iterate 4 apply Ar F;go_simp);(repeat apply Aq);refine Ah F [0, 1, 2, 3, 4, 5, 6, 7, 8] [9, 10, 11, 12, 13, 14, 15, 16, 17, 18, 19, 20, 21, 22, 23] (by rfl) ?_;go_simp;apply lK 8;go_simp;refine Ac ?_;go_simp;(repeat apply Aq);refine At (by go_simp) ?_;apply Ar F;go_simp;apply Au;go_simp
 (iterate 4 apply Ar F;go_simp);(repeat apply Aq);refine Ah F [0, 1, 2, 3, 4, 5, 6, 7, 8] [9, 10, 11, 12, 13, 14, 15, 16, 17, 18, 19, 20, 21, 22, 23] (by rfl) ?_;go_simp;apply lK 8;go_simp;refine Ac ?_;go_simp;(repeat apply Aq);refine Af (by go_simp) ?_;apply As;go_simp;by_cases hm0 : m1 = 0
 ·subst hm0
  by_cases hq0 : q1 = 0
  ·subst hq0
   by_cases hs : t1 = ⟨#[]⟩
   ·subst hs
    by_cases hl : l1.length = b1.length + 1
    ·have hlI : (l1.length : Int) = (b1.length : Int) + 1 := by omega
     rcases b1 with _ | ⟨x, _ | ⟨y, _ | ⟨w, r⟩⟩⟩
     ·exfalso; simp at hl; omega
     ·have hn2 : l1.length = 2 := by simpa using hl
      have hnI : (l1.length : Int) = 2 := by omega
      have ci := SC gk x ⟨#[102, 114, 111, 109, 32, 116, 111]⟩ (by decide); rw [show (⟨#[102, 114, 111, 109, 32, 116, 111]⟩ : ByteArray).size + 1 = 8 from rfl, U5] at ci; have hz2 : z = inB [A6, toB] x := by rw [← hz]; simp [AB, Ax, Am, Ai, hn2, inB, eq_comm]
      subst hz2;(repeat apply Aq);refine Ah F [0, 1, 2, 3, 4, 5, 6, 7, 8] [9, 10, 11, 12, 13, 14, 15, 16, 17, 18, 19] (by rfl) ?_;go_simp;refine Ac ?_;go_simp;(repeat apply Aq);refine Af (by go_simp) ?_;apply As;go_simp;(repeat apply Aq);refine Ah F [0, 1, 2, 3, 4, 5, 6, 7] [8, 9, 10, 11, 12, 13] (by rfl) ?_;go_simp;refine Ac ?_;go_simp;(repeat apply Aq);refine Af (by go_simp) ?_;apply As;go_simp;apply Ar F;go_simp;(repeat apply Aq);apply Ab;(iterate 4 apply Ar F;go_simp;(repeat apply Aq);refine Af (by go_simp) ?_);apply Ar F;go_simp;(repeat apply Aq);refine At (by go_simp) ?_;apply Ar F;go_simp;(repeat apply Aq);refine Ah F [0, 1, 2, 3, 4, 5, 6, 7, 8] [9, 10, 11, 12, 13, 14, 15, 16, 17, 18, 19, 20, 21, 22, 23, 24, 25, 26, 27, 28, 29, 30, 31, 32, 33, 34, 35, 36, 37, 38] (by rfl) ?_;go_simp;apply lK 10;go_simp;apply lK 7;go_simp;refine Ac ?_;go_simp;refine ⟨_, ci, ?_⟩;go_simp;apply Au;go_simp
     ·have hn3 : l1.length = 3 := by simpa using hl
      have hnI : (l1.length : Int) = 3 := by omega
      by_cases hx : x = ⟨#[102, 114, 111, 109]⟩
      ·by_cases hy : y = ⟨#[116, 111]⟩
       ·have hz2 : z = true := by rw [← hz]; simp [AB, Ax, Am, Ai, hn3, A6, toB, hx, hy]
        subst hz2;(repeat apply Aq);refine Ah F [0, 1, 2, 3, 4, 5, 6, 7, 8] [9, 10, 11, 12, 13, 14, 15, 16, 17, 18, 19] (by rfl) ?_;go_simp;refine Ac ?_;go_simp;(repeat apply Aq);refine Af (by go_simp) ?_;apply As;go_simp;(repeat apply Aq);refine Ah F [0, 1, 2, 3, 4, 5, 6, 7] [8, 9, 10, 11, 12, 13] (by rfl) ?_;go_simp;refine Ac ?_;go_simp;(repeat apply Aq);refine Af (by go_simp) ?_;apply As;go_simp;apply Ar F;go_simp;(repeat apply Aq);apply Ab;(iterate 4 apply Ar F;go_simp;(repeat apply Aq);refine Af (by go_simp) ?_);apply Ar F;go_simp;(repeat apply Aq);refine At (by go_simp) ?_;apply Ar F;go_simp;(repeat apply Aq);refine Ah F [0, 1, 2, 3, 4, 5, 6, 7, 8] [9, 10, 11, 12, 13, 14, 15, 16, 17, 18, 19, 20, 21, 22, 23, 24, 25, 26, 27, 28, 29, 30, 31, 32, 33, 34, 35, 36, 37, 38] (by rfl) ?_;go_simp;apply lK 10;go_simp;apply lK 7;go_simp;refine Ac ?_;go_simp;apply Au;go_simp
       have hz2 : z = false := by rw [← hz]; simp [AB, Ax, Am, Ai, hn3, A6, toB, hx, hy]
       subst hz2;(repeat apply Aq);refine Ah F [0, 1, 2, 3, 4, 5, 6, 7, 8] [9, 10, 11, 12, 13, 14, 15, 16, 17, 18, 19] (by rfl) ?_;go_simp;refine Ac ?_;go_simp;(repeat apply Aq);refine Af (by go_simp) ?_;apply As;go_simp;(repeat apply Aq);refine Ah F [0, 1, 2, 3, 4, 5, 6, 7] [8, 9, 10, 11, 12, 13] (by rfl) ?_;go_simp;refine Ac ?_;go_simp;(repeat apply Aq);refine Af (by go_simp) ?_;apply As;go_simp;apply Ar F;go_simp;(repeat apply Aq);apply Ab;(iterate 4 apply Ar F;go_simp;(repeat apply Aq);refine Af (by go_simp) ?_);apply Ar F;go_simp;(repeat apply Aq);refine At (by go_simp) ?_;apply Ar F;go_simp;(repeat apply Aq);refine Ah F [0, 1, 2, 3, 4, 5, 6, 7, 8] [9, 10, 11, 12, 13, 14, 15, 16, 17, 18, 19, 20, 21, 22, 23, 24, 25, 26, 27, 28, 29, 30, 31, 32, 33, 34, 35, 36, 37, 38] (by rfl) ?_;go_simp;apply lK 10;go_simp;apply lK 7;go_simp;refine Ac ?_;go_simp;apply Au;go_simp
      have hz2 : z = false := by rw [← hz]; simp [AB, Ax, Am, Ai, hn3, A6, toB, hx]
      subst hz2;(repeat apply Aq);refine Ah F [0, 1, 2, 3, 4, 5, 6, 7, 8] [9, 10, 11, 12, 13, 14, 15, 16, 17, 18, 19] (by rfl) ?_;go_simp;refine Ac ?_;go_simp;(repeat apply Aq);refine Af (by go_simp) ?_;apply As;go_simp;(repeat apply Aq);refine Ah F [0, 1, 2, 3, 4, 5, 6, 7] [8, 9, 10, 11, 12, 13] (by rfl) ?_;go_simp;refine Ac ?_;go_simp;(repeat apply Aq);refine Af (by go_simp) ?_;apply As;go_simp;apply Ar F;go_simp;(repeat apply Aq);apply Ab;(iterate 4 apply Ar F;go_simp;(repeat apply Aq);refine Af (by go_simp) ?_);apply Ar F;go_simp;(repeat apply Aq);refine At (by go_simp) ?_;apply Ar F;go_simp;(repeat apply Aq);refine Ah F [0, 1, 2, 3, 4, 5, 6, 7, 8] [9, 10, 11, 12, 13, 14, 15, 16, 17, 18, 19, 20, 21, 22, 23, 24, 25, 26, 27, 28, 29, 30, 31, 32, 33, 34, 35, 36, 37, 38] (by rfl) ?_;go_simp;apply lK 10;go_simp;apply lK 7;go_simp;refine Ac ?_;go_simp;apply Au;go_simp
     exfalso; simp at hl; omega
    have hlI : ¬ (l1.length : Int) = (b1.length : Int) + 1 := by omega
    have hz2 : z = false := by rw [← hz]; simp [AB, Ai, hl]
    subst hz2;(repeat apply Aq);refine Ah F [0, 1, 2, 3, 4, 5, 6, 7, 8] [9, 10, 11, 12, 13, 14, 15, 16, 17, 18, 19] (by rfl) ?_;go_simp;refine Ac ?_;go_simp;(repeat apply Aq);refine Af (by go_simp) ?_;apply As;go_simp;(repeat apply Aq);refine Ah F [0, 1, 2, 3, 4, 5, 6, 7] [8, 9, 10, 11, 12, 13] (by rfl) ?_;go_simp;refine Ac ?_;go_simp;(repeat apply Aq);refine Af (by go_simp) ?_;apply As;go_simp;apply Ar F;go_simp;(repeat apply Aq);apply Ab;(iterate 4 apply Ar F;go_simp;(repeat apply Aq);refine Af (by go_simp) ?_);apply Ar F;go_simp;(repeat apply Aq);refine At (by go_simp) ?_;apply Ar F;go_simp;(repeat apply Aq);refine Ah F [0, 1, 2, 3, 4, 5, 6, 7, 8] [9, 10, 11, 12, 13, 14, 15, 16, 17, 18, 19, 20, 21, 22, 23, 24, 25, 26, 27, 28, 29, 30, 31, 32, 33, 34, 35, 36, 37, 38] (by rfl) ?_;go_simp;apply lK 10;go_simp;apply lK 7;go_simp;refine Ac ?_;go_simp;apply Au;go_simp
   have hz2 : z = false := by rw [← hz]; simp [AB, Ax, Am, *]
   subst hz2;(repeat apply Aq);refine Ah F [0, 1, 2, 3, 4, 5, 6, 7, 8] [9, 10, 11, 12, 13, 14, 15, 16, 17, 18, 19] (by rfl) ?_;go_simp;refine Ac ?_;go_simp;(repeat apply Aq);refine Af (by go_simp) ?_;apply As;go_simp;(repeat apply Aq);refine Ah F [0, 1, 2, 3, 4, 5, 6, 7] [8, 9, 10, 11, 12, 13] (by rfl) ?_;go_simp;refine Ac ?_;go_simp;(repeat apply Aq);refine Af (by go_simp) ?_;apply As;go_simp;apply Ar F;go_simp;(repeat apply Aq);apply Ab;(iterate 4 apply Ar F;go_simp;(repeat apply Aq);refine Af (by go_simp) ?_);apply Ar F;go_simp;(repeat apply Aq);refine At (by go_simp) ?_;apply Ar F;go_simp;(repeat apply Aq);refine Ah F [0, 1, 2, 3, 4, 5, 6, 7, 8] [9, 10, 11, 12, 13, 14, 15, 16, 17, 18, 19, 20, 21, 22, 23, 24, 25, 26, 27, 28, 29, 30, 31, 32, 33, 34, 35, 36, 37, 38] (by rfl) ?_;go_simp;apply lK 10;go_simp;apply lK 7;go_simp;refine Ac ?_;go_simp;apply Au;go_simp
  have hz2 : z = false := by rw [← hz]; simp [AB, Ax, Am, *]
  subst hz2; (repeat apply Aq); refine Ah F [0, 1, 2, 3, 4, 5, 6, 7, 8] [9, 10, 11, 12, 13, 14, 15, 16, 17, 18, 19] (by rfl) ?_; go_simp; refine Ac ?_; go_simp; (repeat apply Aq); refine At (by go_simp) ?_; apply Ar F; go_simp; apply Au; go_simp
 have hz2 : z = false := by rw [← hz]; simp [AB, Ax, Am, *]
 subst hz2; (repeat apply Aq); refine Ah F [0, 1, 2, 3, 4, 5, 6, 7, 8] [9, 10, 11, 12, 13, 14, 15, 16, 17, 18, 19] (by rfl) ?_; go_simp; refine Ac ?_; go_simp; (repeat apply Aq); refine At (by go_simp) ?_; apply Ar F; go_simp; apply Au; go_simp
mutual
/-- names that are not too long -/
def F8 : NJ → Prop
 | .mk _ s _ _ l a => s.size ≤ 100000000 ∧ (∀ x ∈ a, x.size ≤ 100000000) ∧ Ge l
def Ge : List NJ → Prop
 | [] => True
 | n :: r => F8 n ∧ Ge r
end
theorem JW : ∀ l : List NJ, Ge l ↔ ∀ n ∈ l, F8 n
 | [] => by simp [Ge]
 | n :: r => by rw [Ge, JW r]; simp
theorem VX (gk : GK G) (hN : Ir G) (hQ : Iq G) (hR : IC G) (n : NJ) (hn : Cy n) (hs : F8 n) : ACalls Tryz.prog G 46 none [.agg (Ag n)] (.ret (bI (AB n)) []) := by
 obtain ⟨k1, t1, m1, q1, l1, b1⟩ := n; by_cases h4 : k1 = 4
 ·subst h4; exact Wf gk t1 m1 q1 l1 b1
 by_cases h6 : k1 = 6
 ·subst h6; exact V5 gk t1 m1 q1 l1 b1
 by_cases h24 : k1 = 24
 ·subst h24; exact Vh gk hR t1 m1 q1 l1 b1 hs.1 hs.2.1
 exact WX gk hN hQ hR _ hn hs.1 ⟨h4, h6, h24⟩
theorem WS (gk : GK G) (hN : Ir G) (hQ : Iq G) (hR : IC G) : ∀ (d : Nat) (n : NJ), Bp n ≤ d → Cy n → F8 n → ACalls Tryz.prog G 20 none [.agg (Ag n)] (.ret (bI (okJ n)) []) := by
 intro d; induction d with
 | zero => intro x h; obtain ⟨k1, t1, m1, q1, l1, b1⟩ := x; simp only [Bp] at h; omega
 | succ d ih =>
  intro n hd hn hs; have c1 := VX gk hN hQ hR n hn hs; obtain ⟨k1, t1, m1, q1, l1, b1⟩ := n; rw [Bp] at hd; obtain ⟨_, _, _, _, _, hkl⟩ := hn; obtain ⟨_, _, hsl⟩ := hs; by_cases hlen : l1.length ≤ 140737488351232
  case neg => exact ⟨⟨_, Tryz.func20, rfl, rfl⟩, fun W S p us hG hSb hrc hrep => absurd (by have := Bh (i := 4) hrep rfl; rwa [AF] at this) hlen⟩
  obtain ⟨z, hz⟩ : ∃ z, okJ (.mk k1 t1 m1 q1 l1 b1) = z := ⟨_, rfl⟩
  rw [hz]; rw [okJ] at hz; generalize AB (.mk k1 t1 m1 q1 l1 b1) = ov1 at c1 hz; obtain ⟨kv, hkv⟩ : ∃ kv, okL l1 = kv := ⟨_, rfl⟩
  rw [hkv] at hz; refine ACalls.enter Tryz.func20 rfl rfl gk Tryz.ntmps20 fun X F => ?_
  apply Ar F; go_simp; apply Ar F; go_simp; (repeat apply Aq); apply Ab; (repeat apply Aq); refine A9 [1, 3] [1000, 1] (by decide) (fun g t => ∃ k : Nat, t = mkS [(1, .ptr 1 0), (3, .im (iI k))] [(1000, .none), (1, .box ((Ag (.mk k1 t1 m1 q1 l1 b1)).map .im))] ∧ g = l1.length - k ∧ k ≤ l1.length ∧ okL (l1.drop k) = kv) (l1.length) ?_ ?_
  ·refine ⟨0, ?_, by omega, by omega, hkv⟩
   go_simp
  rintro g t ⟨k, rfl, rfl, hk, hg⟩; by_cases hkt : k < l1.length
  ·have hkI : (k : Int) < (l1.length : Int) := by omega
   have hrk := rng ((k : Int) + 1) (by omega); have ca := ih l1[k] (C7.1 (by omega) l1[k] (List.getElem_mem hkt)) ((CY l1).1 hkl l1[k] (List.getElem_mem hkt)) ((JW l1).1 hsl l1[k] (List.getElem_mem hkt)); rw [List.drop_eq_getElem_cons hkt, okL] at hg; generalize okJ l1[k] = ov at ca hg; obtain ⟨⟨k5, t5, m5, q5, l5, b5⟩, hx5⟩ : ∃ x, l1[k] = x := ⟨_, rfl⟩
   rw [hx5] at ca; apply Ar F; go_simp; (repeat apply Aq); refine At (by go_simp) ?_; apply As; go_simp; (repeat apply Aq); apply Ab; cases ov
   ·apply Ar F
    go_simp; refine ⟨_, ca, ?_⟩; go_simp; rw [Bool.false_and] at hg; subst hg; have hz2 : z = false := by rw [← hz]; exact Bool.and_false _
    subst hz2; (repeat apply Aq); refine At (by go_simp) ?_; apply Ar F; go_simp; apply Au; go_simp
   apply Ar F; go_simp; refine ⟨_, ca, ?_⟩; go_simp; rw [Bool.true_and] at hg; (repeat apply Aq); refine Af (by go_simp) ?_; apply As; go_simp; apply Ar F; go_simp; refine ⟨l1.length - (k + 1), by omega, k + 1, ?_, by omega, by omega, hg⟩; go_simp
  have hkI : ¬ (k : Int) < (l1.length : Int) := by omega
  rw [List.drop_eq_nil_of_le (by omega), okL] at hg; subst hg; have hz2 : z = ov1 := by rw [← hz]; exact Bool.and_true _
  subst hz2; apply Ar F; go_simp; (repeat apply Aq); refine Af (by go_simp) ?_; apply Ae; go_simp; apply Ar F; go_simp; refine ⟨_, c1, ?_⟩; go_simp; apply Au; go_simp
end Go.Proofs.YtakncilicoefdaaGreatDoor
