/- Lemmas and contracts. Conditions: those that each lemma names. -/
import Derived.Test.YtakncilicoefdaaGreatDoorPt34
set_option maxRecDepth 100000
set_option maxHeartbeats 80000000
namespace Go.Proofs.YtakncilicoefdaaGreatDoor
open Go Go.RowKit Go.Proofs Th
theorem eap (x : ByteArray) : (⟨#[]⟩ : ByteArray) ++ x = x := ByteArray.empty_append
theorem ape (x : ByteArray) : x ++ (⟨#[]⟩ : ByteArray) = x := ByteArray.append_empty
def IG (G : World → CS → Prop) : Prop := ∀ s : ByteArray, s.size ≤ 1000000 → Lib.validD s.data.toList = true → ACalls Tryz.prog G 55 none [sI s] (.ret (.tup [sI (BQ s), .v (.int .i64 0)]) [])
def AE (G : World → CS → Prop) (n : NJ) : Prop := ACalls Tryz.prog G 16 none [.agg (Ag n)] (.ret (sI (spJ n)) [])
set_option maxRecDepth 8000
attribute [local go_sem] sel
attribute [local go_sem] Aa ByteArray.size_append bsz eap ape
variable {G : World → CS → Prop}
theorem BE (gk : GK G) (ks : List ByteArray) (hl : (Aa ks).size ≤ 1000000000) : ACalls Tryz.prog G 30 none [.sl (ks.map fun x => [sI x]) false] (.ret (sI (Aa ks)) []) := by
 have cj := OP (G := G) ks ⟨#[]⟩ (by rw [KV]; exact hl); rw [KV] at cj; generalize Aa ks = z at cj hl; generalize (ks.map fun x => [sI x]) = es at cj; refine ACalls.enter Tryz.func30 rfl rfl gk Tryz.ntmps30 fun X F => ?_
 apply Ar F; go_simp; apply Ar F; go_simp; refine ⟨_, cj, ?_⟩; go_simp; apply Au; go_simp
theorem Lv (gk : GK G) (hW : IG G) (s : ByteArray) (hs : s.size ≤ 1000000) (hv : Lib.validD s.data.toList = true) : ACalls Tryz.prog G 28 none [sI s] (.ret (sI (BQ s)) []) := by
 have cw := hW s hs hv; generalize BQ s = z at cw; refine ACalls.enter Tryz.func28 rfl rfl gk Tryz.ntmps28 fun X F => ?_
 apply Ar F; go_simp; apply Ar F; go_simp; refine ⟨_, cw, ?_⟩; go_simp; apply Ar F; go_simp; apply Au; go_simp
theorem CF (gk : GK G) (n : NJ) (ct : AE G n) (hs : (spJ n).size ≤ 10000000) : ACalls Tryz.prog G 31 none [.agg (Ag n)] (.ret (sI (tgB (Av n) (spJ n))) []) := by
 unfold AE at ct; obtain ⟨k1, t1, m1, q1, l1, b1⟩ := n; generalize spJ (.mk k1 t1 m1 q1 l1 b1) = u at *; rw [show Av (.mk k1 t1 m1 q1 l1 b1) = k1 from rfl]; have ca := BE gk [⟨#[40]⟩, u, ⟨#[41]⟩] (by simp only [Aa, ByteArray.size_append, bsz, List.length_cons, List.length_nil]; omega); rw [List.map_cons, List.map_cons, List.map_cons, List.map_nil] at ca; obtain ⟨z, hz⟩ : ∃ z, tgB k1 u = z := ⟨_, rfl⟩
 rw [hz]; refine ACalls.enter Tryz.func31 rfl rfl gk Tryz.ntmps31 fun X F => ?_
 by_cases g1 : k1 = 1
 ·subst g1
  have hz2 : z = u := by rw [← hz]; rfl
  subst hz2; apply Ar F; go_simp; apply Ar F; go_simp; (repeat apply Aq); apply Ab; apply Ar F; go_simp; (repeat apply Aq); refine At (by go_simp) ?_; apply As; go_simp; (repeat apply Aq); refine At (by go_simp) ?_; apply Ar F; go_simp; refine ⟨_, ct, ?_⟩; go_simp; apply Au; go_simp
 by_cases g5 : k1 = 5
 ·subst g5
  have hz2 : z = u := by rw [← hz]; rfl
  subst hz2; apply Ar F; go_simp; apply Ar F; go_simp; (repeat apply Aq); apply Ab; apply Ar F; go_simp; (repeat apply Aq); refine Af (by go_simp) ?_; apply Ar F; go_simp; (repeat apply Aq); refine At (by go_simp) ?_; apply As; go_simp; (repeat apply Aq); refine At (by go_simp) ?_; apply Ar F; go_simp; refine ⟨_, ct, ?_⟩; go_simp; apply Au; go_simp
 by_cases g6 : k1 = 6
 ·subst g6
  have hz2 : z = u := by rw [← hz]; rfl
  subst hz2;apply Ar F;go_simp;apply Ar F;go_simp;(repeat apply Aq);apply Ab;(iterate 2 apply Ar F;go_simp;(repeat apply Aq);refine Af (by go_simp) ?_);apply Ar F;go_simp;(repeat apply Aq);refine At (by go_simp) ?_;apply As;go_simp;(repeat apply Aq);refine At (by go_simp) ?_;apply Ar F;go_simp;refine ⟨_, ct, ?_⟩;go_simp;apply Au;go_simp
 by_cases g7 : k1 = 7
 ·subst g7
  have hz2 : z = u := by rw [← hz]; rfl
  subst hz2;apply Ar F;go_simp;apply Ar F;go_simp;(repeat apply Aq);apply Ab;(iterate 3 apply Ar F;go_simp;(repeat apply Aq);refine Af (by go_simp) ?_);apply Ar F;go_simp;(repeat apply Aq);refine At (by go_simp) ?_;apply As;go_simp;(repeat apply Aq);refine At (by go_simp) ?_;apply Ar F;go_simp;refine ⟨_, ct, ?_⟩;go_simp;apply Au;go_simp
 by_cases g22 : k1 = 22
 ·subst g22
  have hz2 : z = u := by rw [← hz]; rfl
  subst hz2;apply Ar F;go_simp;apply Ar F;go_simp;(repeat apply Aq);apply Ab;(iterate 4 apply Ar F;go_simp;(repeat apply Aq);refine Af (by go_simp) ?_);apply Ar F;go_simp;(repeat apply Aq);refine At (by go_simp) ?_;apply As;go_simp;(repeat apply Aq);refine At (by go_simp) ?_;apply Ar F;go_simp;refine ⟨_, ct, ?_⟩;go_simp;apply Au;go_simp
 by_cases g23 : k1 = 23
 ·subst g23
  have hz2 : z = u := by rw [← hz]; rfl
  subst hz2;apply Ar F;go_simp;apply Ar F;go_simp;(repeat apply Aq);apply Ab;(iterate 5 apply Ar F;go_simp;(repeat apply Aq);refine Af (by go_simp) ?_);apply Ar F;go_simp;(repeat apply Aq);refine At (by go_simp) ?_;apply Ar F;go_simp;refine ⟨_, ct, ?_⟩;go_simp;apply Au;go_simp
 have hz2 : z = Aa [⟨#[40]⟩, u, ⟨#[41]⟩] := by rw [← hz]; unfold tgB; rw [if_neg (by simp [JT, *])]; simp [Aa, CM, ape, ByteArray.append_assoc]
 rw [hz2];apply Ar F;go_simp;apply Ar F;go_simp;(repeat apply Aq);apply Ab;(iterate 6 apply Ar F;go_simp;(repeat apply Aq);refine Af (by go_simp) ?_);apply As;go_simp;apply Ar F;go_simp;refine ⟨_, ct, ?_⟩;go_simp;refine ⟨_, ca, ?_⟩;go_simp;apply Au;go_simp
theorem EF (gk : GK G) (k1 : Int) (t1 : ByteArray) (m1 q1 : Int) (x y : NJ) (b1 : List ByteArray) (g : ByteArray) (cx : AE G x) (cy : AE G y) (hx : (spJ x).size ≤ 10000000) (hy : (spJ y).size ≤ 10000000) (hg : g.size ≤ 10000000) : ACalls Tryz.prog G 33 none [.agg (Ag (.mk k1 t1 m1 q1 [x, y] b1)), sI g] (.ret (sI (Aa [⟨#[40]⟩, spJ x, ⟨#[32]⟩, g, ⟨#[32]⟩, spJ y, ⟨#[41]⟩])) []) := by
 unfold AE at cx; generalize spJ x = u at *; obtain ⟨k2, t2, m2, q2, l2, b2⟩ := x; unfold AE at cy; generalize spJ y = v at *; obtain ⟨k3, t3, m3, q3, l3, b3⟩ := y; have ca := BE gk [⟨#[40]⟩, u, ⟨#[32]⟩, g, ⟨#[32]⟩, v, ⟨#[41]⟩] (by simp only [Aa, ByteArray.size_append, bsz, List.length_cons, List.length_nil]; omega); simp only [List.map_cons, List.map_nil] at ca; generalize Aa [⟨#[40]⟩, u, ⟨#[32]⟩, g, ⟨#[32]⟩, v, ⟨#[41]⟩] = z at ca ⊢; refine ACalls.enter Tryz.func33 rfl rfl gk Tryz.ntmps33 fun X F => ?_
 apply Ar F; go_simp; (repeat apply Aq); refine Ad F [0, 1, 2, 3, 5, 6, 7, 8, 9, 4, 10, 11, 12, 13] [(7, 4), (8, 4), (9, 4)] mixed (by kernel_rfl) ?_; go_simp; refine ⟨_, cx, ?_⟩; go_simp; refine ⟨_, cy, ?_⟩; go_simp; refine ⟨_, ca, ?_⟩; go_simp; apply Au; go_simp
open Go Go.RowKit Go.Proofs Th
set_option maxRecDepth 8000
variable {G : World → CS → Prop}
def DY (most : Nat) : List ByteArray → Nat → Nat
 | [], acc => acc
 | x :: r, acc => if acc ≤ most then DY most r (acc + 1 + x.size) else acc
mutual
/-- how many nodes and bytes, as far as most -/
def Dd : NJ → Nat → Nat
 | .mk _ s _ _ l a, most => if most < a.length then most + 1 else CH l most (DY most a (1 + s.size))
def CH : List NJ → Nat → Nat → Nat
 | [], _, acc => acc
 | x :: r, most, acc => if acc ≤ most then CH r most (acc + Dd x (most - acc)) else acc
end
theorem JD (most : Nat) : ∀ (a : List ByteArray) (acc : Nat), (∀ x ∈ a, x.size ≤ 140737488351232) → acc ≤ most + 140737488351233 → DY most a acc ≤ most + 140737488351233
 | [], acc, _, h => h
 | x :: r, acc, hs, h => by
  unfold DY; split
  ·have := hs x List.mem_cons_self
   exact JD most r _ (fun y hy => hs y (List.mem_cons_of_mem _ hy)) (by omega)
  exact h
mutual
theorem KZ : ∀ (n : NJ) (most : Nat), Cy n → Dd n most ≤ most + 140737488351233
 | .mk k s m e l a, most, h => by
  obtain ⟨_, _, _, h1, h2, h3⟩ := h; rw [Dd]; split
  ·omega
  exact Nj l most _ h3 (JD most a _ h2 (by omega))
theorem Nj : ∀ (l : List NJ) (most acc : Nat), FW l → acc ≤ most + 140737488351233 → CH l most acc ≤ most + 140737488351233
 | [], most, acc, _, h => by rw [CH]; exact h
 | x :: r, most, acc, hl, h => by
  rw [CH]; split
  ·have := KZ x (most - acc) hl.1
   exact Nj r most _ hl.2 (by omega)
  exact h
end
theorem Wc (gk : GK G) : ∀ (n : Nat) (x : NJ), Bp x ≤ n → ∀ most : Nat, most ≤ 1000000 → Cy x → ACalls Tryz.prog G 7 none [.agg (Ag x), iI most] (.ret (iI (Dd x most)) []) := by
 intro n; induction n with
 | zero => intro x h; obtain ⟨k1, t1, m1, q1, l1, b1⟩ := x; simp only [Bp] at h; omega
 | succ n ih =>
  intro x hx most hm hok; obtain ⟨k1, t1, m1, q1, l1, b1⟩ := x; rw [Bp] at hx; obtain ⟨_, _, _, hs, hb, hkl⟩ := hok; by_cases hlen : l1.length ≤ 140737488351232
  case neg => exact ⟨⟨_, Tryz.func7, rfl, rfl⟩, fun W S p us hG hSb hrc hrep => absurd (by have := Bh (i := 4) hrep rfl; rwa [AF] at this) hlen⟩
  by_cases hlen2 : b1.length ≤ 140737488351232
  case neg => exact ⟨⟨_, Tryz.func7, rfl, rfl⟩, fun W S p us hG hSb hrc hrep => absurd (by have := Bh (i := 5) hrep rfl; rwa [List.length_map] at this) hlen2⟩
  obtain ⟨z, hz⟩ : ∃ z, Dd (.mk k1 t1 m1 q1 l1 b1) most = z := ⟨_, rfl⟩
  rw [hz]; rw [Dd] at hz; by_cases h0 : most < b1.length
  ·have h0I : (most : Int) < (b1.length : Int) := by omega
   have hrm := rng ((most : Int) + 1) (by omega); rw [if_pos h0] at hz; subst hz; refine ACalls.enter Tryz.func7 rfl rfl gk Tryz.ntmps7 fun X F => ?_
   apply Ar F; go_simp; apply Ar F; go_simp; (repeat apply Aq); refine At (by go_simp) ?_; apply Ar F; go_simp; apply Au; go_simp
  have h0I : ¬ (most : Int) < (b1.length : Int) := by omega
  rw [if_neg h0] at hz; have hr0 := rng (1 + (t1.size : Int)) (by omega); have hac0 := JD most b1 (1 + t1.size) hb (by omega); obtain ⟨z1, hz1⟩ : ∃ z1, DY most b1 (1 + t1.size) = z1 := ⟨_, rfl⟩
  rw [hz1] at hz hac0; refine ACalls.enter Tryz.func7 rfl rfl gk Tryz.ntmps7 fun X F => ?_
  apply Ar F; go_simp; apply Ar F; go_simp; (repeat apply Aq); refine Af (by go_simp) ?_; apply As; go_simp; apply Ar F; go_simp; apply Ar F; go_simp; (repeat apply Aq); apply Ab; (repeat apply Aq); refine A9 [1, 2, 5, 6] [1000, 2] (by decide) (fun g t => ∃ (k acc : Nat), t = mkS [(1, .im (iI most)), (2, .ptr 2 0), (5, .im (iI acc)), (6, .im (iI k))] [(1000, .none), (2, .box ((Ag (.mk k1 t1 m1 q1 l1 b1)).map .im))] ∧ g = b1.length - k ∧ k ≤ b1.length ∧ acc ≤ most + 140737488351233 ∧ DY most (b1.drop k) acc = z1) (b1.length) ?_ ?_
  ·refine ⟨0, 1 + t1.size, ?_, by omega, by omega, by omega, hz1⟩
   go_simp
  rintro g t ⟨k, acc, rfl, rfl, hk, hac, hg⟩; by_cases hkt : k < b1.length
  ·have hkI : (k : Int) < (b1.length : Int) := by omega
   have hrk := rng ((k : Int) + 1) (by omega); have hsx := hb b1[k] (List.getElem_mem hkt); rw [List.drop_eq_getElem_cons hkt, DY] at hg; by_cases ha : acc ≤ most
   ·have haI : (acc : Int) ≤ (most : Int) := by omega
    rw [if_pos ha] at hg; obtain ⟨v, hv⟩ : ∃ v, b1[k] = v := ⟨_, rfl⟩
    rw [hv] at hg hsx; have hr1 := rng ((acc : Int) + 1) (by omega); have hr2 := rng ((acc : Int) + 1 + (v.size : Int)) (by omega); apply Ar F; go_simp; (repeat apply Aq); refine At (by go_simp) ?_; apply As; go_simp; (repeat apply Aq); apply Ab; apply Ar F; go_simp; apply Ar F; go_simp; refine ⟨b1.length - (k + 1), by omega, k + 1, acc + 1 + v.size, ?_, by omega, by omega, by omega, hg⟩; go_simp
   have haI : ¬ (acc : Int) ≤ (most : Int) := by omega
   rw [if_neg ha] at hg; subst hg; apply Ar F; go_simp; (repeat apply Aq); refine Af (by go_simp) ?_; apply Ae; go_simp; apply Ar F; go_simp; (repeat apply Aq); apply Ab; (repeat apply Aq); refine A9 [1, 2, 5, 7] [1000, 2] (by decide) (fun g t => ∃ (k acc : Nat), t = mkS [(1, .im (iI most)), (2, .ptr 2 0), (5, .im (iI acc)), (7, .im (iI k))] [(1000, .none), (2, .box ((Ag (.mk k1 t1 m1 q1 l1 b1)).map .im))] ∧ g = l1.length - k ∧ k ≤ l1.length ∧ acc ≤ most + 140737488351233 ∧ CH (l1.drop k) most acc = z) (l1.length) ?_ ?_
   ·refine ⟨0, acc, ?_, by omega, by omega, hac, hz⟩
    go_simp
   rintro g t ⟨k, acc, rfl, rfl, hk, hac, hg⟩; by_cases hkt : k < l1.length
   ·have hkI : (k : Int) < (l1.length : Int) := by omega
    have hrk := rng ((k : Int) + 1) (by omega); rw [List.drop_eq_getElem_cons hkt, CH] at hg; by_cases ha : acc ≤ most
    ·have haI : (acc : Int) ≤ (most : Int) := by omega
     rw [if_pos ha] at hg; have hbl := KZ l1[k] (most - acc) ((CY l1).1 hkl l1[k] (List.getElem_mem hkt)); have cb := ih l1[k] (C7.1 (by omega) l1[k] (List.getElem_mem hkt)) (most - acc) (by omega) ((CY l1).1 hkl l1[k] (List.getElem_mem hkt)); have hca : (most : Int) - (acc : Int) = ((most - acc : Nat) : Int) := by omega
     have hrr := rng (((most - acc : Nat) : Int)) (by omega); generalize Dd l1[k] (most - acc) = bv at cb hg hbl; have hrs := rng ((acc : Int) + (bv : Int)) (by omega); obtain ⟨⟨k5, t5, m5, q5, l5, b5⟩, hx5⟩ : ∃ x, l1[k] = x := ⟨_, rfl⟩
     rw [hx5] at cb; apply Ar F; go_simp; (repeat apply Aq); refine At (by go_simp) ?_; apply As; go_simp; (repeat apply Aq); apply Ab; apply Ar F; go_simp; refine ⟨_, cb, ?_⟩; go_simp; apply Ar F; go_simp; refine ⟨l1.length - (k + 1), by omega, k + 1, acc + bv, ?_, by omega, by omega, by omega, hg⟩; go_simp
    have haI : ¬ (acc : Int) ≤ (most : Int) := by omega
    rw [if_neg ha] at hg; subst hg; apply Ar F; go_simp; (repeat apply Aq); refine Af (by go_simp) ?_; apply Ae; go_simp; apply Ar F; go_simp; apply Au; go_simp
   have hkI : ¬ (k : Int) < (l1.length : Int) := by omega
   rw [List.drop_eq_nil_of_le (by omega), CH] at hg; subst hg; apply Ar F; go_simp; (repeat apply Aq); refine Af (by go_simp) ?_; apply Ae; go_simp; apply Ar F; go_simp; apply Au; go_simp
  have hkI : ¬ (k : Int) < (b1.length : Int) := by omega
  rw [List.drop_eq_nil_of_le (by omega), DY] at hg; subst hg; apply Ar F; go_simp; (repeat apply Aq); refine Af (by go_simp) ?_; apply Ae; go_simp; apply Ar F; go_simp; (repeat apply Aq); apply Ab; (repeat apply Aq); refine A9 [1, 2, 5, 7] [1000, 2] (by decide) (fun g t => ∃ (k acc : Nat), t = mkS [(1, .im (iI most)), (2, .ptr 2 0), (5, .im (iI acc)), (7, .im (iI k))] [(1000, .none), (2, .box ((Ag (.mk k1 t1 m1 q1 l1 b1)).map .im))] ∧ g = l1.length - k ∧ k ≤ l1.length ∧ acc ≤ most + 140737488351233 ∧ CH (l1.drop k) most acc = z) (l1.length) ?_ ?_
  ·refine ⟨0, acc, ?_, by omega, by omega, hac, hz⟩
   go_simp
  rintro g t ⟨k, acc, rfl, rfl, hk, hac, hg⟩; by_cases hkt : k < l1.length
  ·have hkI : (k : Int) < (l1.length : Int) := by omega
   have hrk := rng ((k : Int) + 1) (by omega); rw [List.drop_eq_getElem_cons hkt, CH] at hg; by_cases ha : acc ≤ most
   ·have haI : (acc : Int) ≤ (most : Int) := by omega
    rw [if_pos ha] at hg; have hbl := KZ l1[k] (most - acc) ((CY l1).1 hkl l1[k] (List.getElem_mem hkt)); have cb := ih l1[k] (C7.1 (by omega) l1[k] (List.getElem_mem hkt)) (most - acc) (by omega) ((CY l1).1 hkl l1[k] (List.getElem_mem hkt)); have hca : (most : Int) - (acc : Int) = ((most - acc : Nat) : Int) := by omega
    have hrr := rng (((most - acc : Nat) : Int)) (by omega); generalize Dd l1[k] (most - acc) = bv at cb hg hbl; have hrs := rng ((acc : Int) + (bv : Int)) (by omega); obtain ⟨⟨k5, t5, m5, q5, l5, b5⟩, hx5⟩ : ∃ x, l1[k] = x := ⟨_, rfl⟩
    rw [hx5] at cb; apply Ar F; go_simp; (repeat apply Aq); refine At (by go_simp) ?_; apply As; go_simp; (repeat apply Aq); apply Ab; apply Ar F; go_simp; refine ⟨_, cb, ?_⟩; go_simp; apply Ar F; go_simp; refine ⟨l1.length - (k + 1), by omega, k + 1, acc + bv, ?_, by omega, by omega, by omega, hg⟩; go_simp
   have haI : ¬ (acc : Int) ≤ (most : Int) := by omega
   rw [if_neg ha] at hg; subst hg; apply Ar F; go_simp; (repeat apply Aq); refine Af (by go_simp) ?_; apply Ae; go_simp; apply Ar F; go_simp; apply Au; go_simp
  have hkI : ¬ (k : Int) < (l1.length : Int) := by omega
  rw [List.drop_eq_nil_of_le (by omega), CH] at hg; subst hg; apply Ar F; go_simp; (repeat apply Aq); refine Af (by go_simp) ?_; apply Ae; go_simp; apply Ar F; go_simp; apply Au; go_simp
open Go Go.RowKit Go.Proofs Th
set_option maxRecDepth 8000
variable {G : World → CS → Prop}
def Ki (G : World → CS → Prop) : Prop := ∀ m e : Int, I64 m → ACalls Tryz.prog G 50 none [.agg [iI m, iI e]] (.ret (bI (right m e)) [])
def Ku (G : World → CS → Prop) : Prop := ∀ s : ByteArray, s.size ≤ 140737488351232 → ACalls Tryz.prog G 63 none [sI s] (.ret (bI (Lib.validD s.data.toList)) [])
theorem SR (gk : GK G) (k1 : Int) (t1 : ByteArray) (m1 q1 : Int) (l1 : List NJ) (b1 : List ByteArray) (hs : t1.size ≤ 140737488351232) (hb : ∀ x ∈ b1, x.size ≤ 140737488351232) (hk0 : 18 < k1 ∧ k1 ≠ 26 ∨ k1 < 1) : ACalls Tryz.prog G 65 none [.agg (Ag (.mk k1 t1 m1 q1 l1 b1)), iI l1.length] (.ret (bI (Ai (.mk k1 t1 m1 q1 l1 b1))) []) := by
 have c1 := Ld gk t1 hs; have c2 := Pe gk t1 hs; have c3 := QC gk b1 hb; have c4 : ACalls Tryz.prog G 64 none [sI t1, .sl [[sI ⟨#[61]⟩], [sI ⟨#[124, 61]⟩], [sI ⟨#[43, 61]⟩], [sI ⟨#[45, 61]⟩], [sI ⟨#[42, 61]⟩], [sI ⟨#[47, 61]⟩], [sI ⟨#[47, 47, 61]⟩]] false] (.ret (bI (inB EH t1)) []) := M3 gk EH t1; by_cases hk : k1 = 19
 ·subst hk
  all_goals
   by_cases hn : l1.length = 3
   ·rw [show Ai (.mk _ t1 m1 q1 l1 b1) = B4 t1 by simp [Ai, hn]]
    have hnI : (l1.length : Int) = 3 := by omega
    refine ACalls.enter Tryz.func65 rfl rfl gk Tryz.ntmps65 fun X F => ?_
    repeat' first
     | refine AW.seq ?_
     | refine AW.block ?_
     | (refine Ao F ?_; go_simp)
     | (refine Ak ?_; go_simp)
     | (refine AW.skip ?_; go_simp)
     | (refine AW.exit ?_; go_simp)
     | (refine AW.ret ?_; go_simp)
     | (refine ⟨_, c1, ?_⟩; go_simp)
     | refine ⟨fun h => ?_, fun h => ?_⟩
     | intro h
   rw [show Ai (.mk _ t1 m1 q1 l1 b1) = false by simp [Ai, hn]]; have hnI : ¬ (l1.length : Int) = 3 := by omega
   refine ACalls.enter Tryz.func65 rfl rfl gk Tryz.ntmps65 fun X F => ?_
   repeat' first
    | refine AW.seq ?_
    | refine AW.block ?_
    | (refine Ao F ?_; go_simp)
    | (refine Ak ?_; go_simp)
    | (refine AW.skip ?_; go_simp)
    | (refine AW.exit ?_; go_simp)
    | (refine AW.ret ?_; go_simp)
    | (refine ⟨_, c1, ?_⟩; go_simp)
    | refine ⟨fun h => ?_, fun h => ?_⟩
    | intro h
 by_cases hk : k1 = 20
 ·subst hk
  all_goals
   by_cases hn : l1.length = 4
   ·rw [show Ai (.mk _ t1 m1 q1 l1 b1) = B4 t1 by simp [Ai, hn]]
    have hnI : (l1.length : Int) = 4 := by omega
    refine ACalls.enter Tryz.func65 rfl rfl gk Tryz.ntmps65 fun X F => ?_
    repeat' first
     | refine AW.seq ?_
     | refine AW.block ?_
     | (refine Ao F ?_; go_simp)
     | (refine Ak ?_; go_simp)
     | (refine AW.skip ?_; go_simp)
     | (refine AW.exit ?_; go_simp)
     | (refine AW.ret ?_; go_simp)
     | (refine ⟨_, c1, ?_⟩; go_simp)
     | refine ⟨fun h => ?_, fun h => ?_⟩
     | intro h
   rw [show Ai (.mk _ t1 m1 q1 l1 b1) = false by simp [Ai, hn]]; have hnI : ¬ (l1.length : Int) = 4 := by omega
   refine ACalls.enter Tryz.func65 rfl rfl gk Tryz.ntmps65 fun X F => ?_
   repeat' first
    | refine AW.seq ?_
    | refine AW.block ?_
    | (refine Ao F ?_; go_simp)
    | (refine Ak ?_; go_simp)
    | (refine AW.skip ?_; go_simp)
    | (refine AW.exit ?_; go_simp)
    | (refine AW.ret ?_; go_simp)
    | (refine ⟨_, c1, ?_⟩; go_simp)
    | refine ⟨fun h => ?_, fun h => ?_⟩
    | intro h
 by_cases hk : k1 = 21
 ·subst hk
  all_goals
   by_cases hn : l1.length = 2
   ·rw [show Ai (.mk _ t1 m1 q1 l1 b1) = B4 t1 by simp [Ai, hn]]
    have hnI : (l1.length : Int) = 2 := by omega
    refine ACalls.enter Tryz.func65 rfl rfl gk Tryz.ntmps65 fun X F => ?_
    repeat' first
     | refine AW.seq ?_
     | refine AW.block ?_
     | (refine Ao F ?_; go_simp)
     | (refine Ak ?_; go_simp)
     | (refine AW.skip ?_; go_simp)
     | (refine AW.exit ?_; go_simp)
     | (refine AW.ret ?_; go_simp)
     | (refine ⟨_, c1, ?_⟩; go_simp)
     | refine ⟨fun h => ?_, fun h => ?_⟩
     | intro h
   rw [show Ai (.mk _ t1 m1 q1 l1 b1) = false by simp [Ai, hn]]; have hnI : ¬ (l1.length : Int) = 2 := by omega
   refine ACalls.enter Tryz.func65 rfl rfl gk Tryz.ntmps65 fun X F => ?_
   repeat' first
    | refine AW.seq ?_
    | refine AW.block ?_
    | (refine Ao F ?_; go_simp)
    | (refine Ak ?_; go_simp)
    | (refine AW.skip ?_; go_simp)
    | (refine AW.exit ?_; go_simp)
    | (refine AW.ret ?_; go_simp)
    | (refine ⟨_, c1, ?_⟩; go_simp)
    | refine ⟨fun h => ?_, fun h => ?_⟩
    | intro h
 by_cases hk : k1 = 22
 ·subst hk
  all_goals
   by_cases hn : l1.length = 0
   ·rw [show Ai (.mk _ t1 m1 q1 l1 b1) = B4 t1 by simp [Ai, hn]]
    have hnI : (l1.length : Int) = 0 := by omega
    refine ACalls.enter Tryz.func65 rfl rfl gk Tryz.ntmps65 fun X F => ?_
    repeat' first
     | refine AW.seq ?_
     | refine AW.block ?_
     | (refine Ao F ?_; go_simp)
     | (refine Ak ?_; go_simp)
     | (refine AW.skip ?_; go_simp)
     | (refine AW.exit ?_; go_simp)
     | (refine AW.ret ?_; go_simp)
     | (refine ⟨_, c1, ?_⟩; go_simp)
     | refine ⟨fun h => ?_, fun h => ?_⟩
     | intro h
   rw [show Ai (.mk _ t1 m1 q1 l1 b1) = false by simp [Ai, hn]]; have hnI : ¬ (l1.length : Int) = 0 := by omega
   refine ACalls.enter Tryz.func65 rfl rfl gk Tryz.ntmps65 fun X F => ?_
   repeat' first
    | refine AW.seq ?_
    | refine AW.block ?_
    | (refine Ao F ?_; go_simp)
    | (refine Ak ?_; go_simp)
    | (refine AW.skip ?_; go_simp)
    | (refine AW.exit ?_; go_simp)
    | (refine AW.ret ?_; go_simp)
    | (refine ⟨_, c1, ?_⟩; go_simp)
    | refine ⟨fun h => ?_, fun h => ?_⟩
    | intro h
 by_cases hk : k1 = 23
 ·subst hk
  rw [show Ai (.mk _ t1 m1 q1 l1 b1) = CK t1 by simp [Ai]]; refine ACalls.enter Tryz.func65 rfl rfl gk Tryz.ntmps65 fun X F => ?_
  repeat' first
   | refine AW.seq ?_
   | refine AW.block ?_
   | (refine Ao F ?_; go_simp)
   | (refine Ak ?_; go_simp)
   | (refine AW.skip ?_; go_simp)
   | (refine AW.exit ?_; go_simp)
   | (refine AW.ret ?_; go_simp)
   | (refine ⟨_, c2, ?_⟩; go_simp)
   | refine ⟨fun h => ?_, fun h => ?_⟩
   | intro h
 by_cases hk : k1 = 24
 ·subst hk
  all_goals
   by_cases hn : l1.length = 2
   ·rw [show Ai (.mk _ t1 m1 q1 l1 b1) = (CK t1 && b1.all Dw) by simp [Ai, hn]]
    have hnI : (l1.length : Int) = 2 := by omega
    cases hf : CK t1
    ·rw [hf] at c2
     refine ACalls.enter Tryz.func65 rfl rfl gk Tryz.ntmps65 fun X F => ?_
     repeat' first
      | refine AW.seq ?_
      | refine AW.block ?_
      | (refine Ao F ?_; go_simp)
      | (refine Ak ?_; go_simp)
      | (refine AW.skip ?_; go_simp)
      | (refine AW.exit ?_; go_simp)
      | (refine AW.ret ?_; go_simp)
      | (refine ⟨_, c2, ?_⟩; go_simp)
      | refine ⟨fun h => ?_, fun h => ?_⟩
      | intro h
    rw [hf] at c2; rw [Bool.true_and]; refine ACalls.enter Tryz.func65 rfl rfl gk Tryz.ntmps65 fun X F => ?_
    repeat' first
     | refine AW.seq ?_
     | refine AW.block ?_
     | (refine Ao F ?_; go_simp)
     | (refine Ak ?_; go_simp)
     | (refine AW.skip ?_; go_simp)
     | (refine AW.exit ?_; go_simp)
     | (refine AW.ret ?_; go_simp)
     | (refine ⟨_, c2, ?_⟩; go_simp)
     | (refine ⟨_, c3, ?_⟩; go_simp)
     | refine ⟨fun h => ?_, fun h => ?_⟩
     | intro h
   rw [show Ai (.mk _ t1 m1 q1 l1 b1) = false by simp [Ai, hn]]; have hnI : ¬ (l1.length : Int) = 2 := by omega
   refine ACalls.enter Tryz.func65 rfl rfl gk Tryz.ntmps65 fun X F => ?_
   repeat' first
    | refine AW.seq ?_
    | refine AW.block ?_
    | (refine Ao F ?_; go_simp)
    | (refine Ak ?_; go_simp)
    | (refine AW.skip ?_; go_simp)
    | (refine AW.exit ?_; go_simp)
    | (refine AW.ret ?_; go_simp)
    | (refine ⟨_, c2, ?_⟩; go_simp)
    | (refine ⟨_, c3, ?_⟩; go_simp)
    | refine ⟨fun h => ?_, fun h => ?_⟩
    | intro h
 by_cases hk : k1 = 25
 ·subst hk
  all_goals
   by_cases hn : l1.length = 2
   ·rw [show Ai (.mk _ t1 m1 q1 l1 b1) = inB EH t1 by simp [Ai, hn]]
    have hnI : (l1.length : Int) = 2 := by omega
    refine ACalls.enter Tryz.func65 rfl rfl gk Tryz.ntmps65 fun X F => ?_
    repeat' first
     | refine AW.seq ?_
     | refine AW.block ?_
     | (refine Ao F ?_; go_simp)
     | (refine Ak ?_; go_simp)
     | (refine AW.skip ?_; go_simp)
     | (refine AW.exit ?_; go_simp)
     | (refine AW.ret ?_; go_simp)
     | (refine ⟨_, c4, ?_⟩; go_simp)
     | refine ⟨fun h => ?_, fun h => ?_⟩
     | intro h
   rw [show Ai (.mk _ t1 m1 q1 l1 b1) = false by simp [Ai, hn]]; have hnI : ¬ (l1.length : Int) = 2 := by omega
   refine ACalls.enter Tryz.func65 rfl rfl gk Tryz.ntmps65 fun X F => ?_
   repeat' first
    | refine AW.seq ?_
    | refine AW.block ?_
    | (refine Ao F ?_; go_simp)
    | (refine Ak ?_; go_simp)
    | (refine AW.skip ?_; go_simp)
    | (refine AW.exit ?_; go_simp)
    | (refine AW.ret ?_; go_simp)
    | (refine ⟨_, c4, ?_⟩; go_simp)
    | refine ⟨fun h => ?_, fun h => ?_⟩
    | intro h
 rw [show Ai (.mk k1 t1 m1 q1 l1 b1) = false by simp only [Ai]; repeat rw [if_neg (by omega)]]; refine ACalls.enter Tryz.func65 rfl rfl gk Tryz.ntmps65 fun X F => ?_
 repeat' first
  | refine AW.seq ?_
  | refine AW.block ?_
  | (refine Ao F ?_; go_simp)
  | (refine Ak ?_; go_simp)
  | (refine AW.skip ?_; go_simp)
  | (refine AW.exit ?_; go_simp)
  | (refine AW.ret ?_; go_simp)
  | refine ⟨fun h => ?_, fun h => ?_⟩
  | intro h
theorem H4 {l : List NJ} {k : Nat} (h : l.length ≤ k) : Cm (l.drop k) = true := by rw [List.drop_eq_nil_of_le h]; rfl
theorem LT {l : List NJ} {k : Nat} (h : k < l.length) : Cm (l.drop k) = (decide (Av l[k] = 3) && Cm (l.drop (k + 2))) := by
 rw [List.drop_eq_getElem_cons h]; cases hd : l.drop (k + 1) with
 | nil =>
  have : l.length ≤ k + 1 := List.drop_eq_nil_iff.1 hd; rw [H4 (by omega), Bool.and_true]; rfl
 | cons y r =>
  have : l.drop (k + 2) = r := by rw [← List.drop_drop (i := 1) (j := k + 1), hd]; rfl
  rw [this]; rfl
theorem Tp (gk : GK G) (t1 : ByteArray) (m1 q1 : Int) (l1 : List NJ) (b1 : List ByteArray) : ACalls Tryz.prog G 43 none [.agg (Ag (.mk 4 t1 m1 q1 l1 b1))] (.ret (bI (Ai (.mk 4 t1 m1 q1 l1 b1))) []) := by
 by_cases hlen : l1.length ≤ 140737488351232
 case neg => exact ⟨⟨_, Tryz.func43, rfl, rfl⟩, fun W S p us hG hSb hrc hrep => absurd (by have := Bh (i := 4) hrep rfl; rwa [AF] at this) hlen⟩
 rw [show Ai (.mk 4 t1 m1 q1 l1 b1) = (Cm l1 && decide (3 ≤ l1.length) && decide (l1.length % 2 = 1)) by simp [Ai]]; obtain ⟨z, hz⟩ : ∃ z, Cm l1 = z := ⟨_, rfl⟩
 obtain ⟨zz, hzz⟩ : ∃ zz, (Cm l1 && decide (3 ≤ l1.length) && decide (l1.length % 2 = 1)) = zz := ⟨_, rfl⟩
 rw [hzz]; refine ACalls.enter Tryz.func43 rfl rfl gk Tryz.ntmps43 fun X F => ?_
 (iterate 3 apply Ar F;go_simp);(repeat apply Aq);apply Ab;(iterate 4 apply Ar F;go_simp;(repeat apply Aq);refine Af (by go_simp) ?_);apply Ar F;go_simp;(repeat apply Aq);refine At (by go_simp) ?_;apply Ar F;go_simp;(repeat apply Aq);apply Ab;(repeat apply Aq);refine A9 [1, 3, 4] [1000, 1] (by decide) (fun g t => ∃ k : Nat, t = mkS [(1, .ptr 1 0), (3, .im (iI l1.length)), (4, .im (iI k))] [(1000, .none), (1, .box ((Ag (.mk 4 t1 m1 q1 l1 b1)).map .im))] ∧ g = l1.length - k ∧ k ≤ l1.length + 1 ∧ Cm (l1.drop k) = z) (l1.length) ?_ ?_
 ·refine ⟨0, ?_, by omega, by omega, hz⟩
  go_simp
 rintro g t ⟨k, rfl, rfl, hk, hg⟩; by_cases hkt : k < l1.length
 ·have hkI : (k : Int) < (l1.length : Int) := by omega
  have hrk := rng ((k : Int) + 2) (by omega); rw [LT hkt] at hg; obtain ⟨⟨k5, t5, m5, q5, l5, b5⟩, hx⟩ : ∃ x, l1[k] = x := ⟨_, rfl⟩
  skip
  apply Ar F; go_simp; (repeat apply Aq); refine At (by go_simp) ?_; apply As; go_simp; (repeat apply Aq); apply Ab; by_cases h3 : k5 = 3
  ·subst h3
   rw [show decide (Av l1[k] = 3) = true by rw [hx]; rfl, Bool.true_and] at hg; apply Ar F; go_simp; (repeat apply Aq); refine Af (by go_simp) ?_; apply As; go_simp; apply Ar F; go_simp; refine ⟨l1.length - (k + 2), by omega, k + 2, ?_, by omega, by omega, hg⟩; go_simp
  rw [show decide (Av l1[k] = 3) = false by rw [hx]; exact decide_eq_false h3, Bool.false_and] at hg; subst hg; have hq : zz = false := by rw [← hzz, hz]; rfl
  subst hq; apply Ar F; go_simp; (repeat apply Aq); refine At (by go_simp) ?_; apply Ar F; go_simp; apply Au; go_simp
 have hkI : ¬ (k : Int) < (l1.length : Int) := by omega
 rw [H4 (by omega)] at hg; subst hg; apply Ar F; go_simp; (repeat apply Aq); refine Af (by go_simp) ?_; apply Ae; go_simp; by_cases hl : 3 ≤ l1.length
 ·have hlI : (3 : Int) ≤ (l1.length : Int) := by omega
  by_cases hm : l1.length % 2 = 1
  ·have hmI : (l1.length : Int).tmod 2 = 1 := by rw [Int.tmod_eq_emod_of_nonneg (by omega)]; omega
   have hq : zz = true := by rw [← hzz, hz]; simp [hl, hm]
   subst hq; apply Ar F; go_simp; apply Au; go_simp
  have hmI : ¬ (l1.length : Int).tmod 2 = 1 := by rw [Int.tmod_eq_emod_of_nonneg (by omega)]; omega
  have hq : zz = false := by rw [← hzz, hz]; simp [hm]
  subst hq; apply Ar F; go_simp; apply Au; go_simp
 have hlI : ¬ (3 : Int) ≤ (l1.length : Int) := by omega
 have hq : zz = false := by rw [← hzz, hz]; simp [hl]
 subst hq; apply Ar F; go_simp; apply Au; go_simp
theorem Tx (gk : GK G) (t1 : ByteArray) (m1 q1 : Int) (l1 : List NJ) (b1 : List ByteArray) : ACalls Tryz.prog G 43 none [.agg (Ag (.mk 6 t1 m1 q1 l1 b1))] (.ret (bI (Ai (.mk 6 t1 m1 q1 l1 b1))) []) := by
 by_cases hlen : b1.length ≤ 140737488351232
 case neg => exact ⟨⟨_, Tryz.func43, rfl, rfl⟩, fun W S p us hG hSb hrc hrep => absurd (by have := Bh (i := 5) hrep rfl; rwa [List.length_map] at this) hlen⟩
 have hrb := rng ((b1.length : Int) + 1) (by omega); by_cases hn : l1.length = b1.length + 1
 case neg =>
  have hnI : ¬ (l1.length : Int) = (b1.length : Int) + 1 := by omega
  rw [show Ai (.mk 6 t1 m1 q1 l1 b1) = false by simp [Ai, hn]]; refine ACalls.enter Tryz.func43 rfl rfl gk Tryz.ntmps43 fun X F => ?_
  repeat' first
   | refine AW.seq ?_
   | refine AW.block ?_
   | (refine Ah F [0, 1, 2, 3, 4, 5, 6, 7] [8, 9, 10, 11, 12, 13, 14, 15, 16, 17, 18, 19, 20, 21, 22, 23, 24, 25, 26, 27, 28, 29, 30, 31, 32, 33, 34, 35, 36] (by rfl) ?_; go_simp)
   | (refine AM [8, 9, 10, 11, 12, 13, 14, 15] [16, 17, 18, 19, 20, 21, 22, 23, 24, 25, 26, 27, 28, 29, 30, 31, 32, 33, 34, 35, 36] ?_; go_simp)
   | (refine AM [16, 17, 18, 19, 20, 21, 22, 23] [24, 25, 26, 27, 28, 29, 30, 31, 32, 33, 34, 35, 36] ?_; go_simp)
   | (refine AM [24, 25, 26, 27, 28, 29, 30, 31] [32, 33, 34, 35, 36] ?_; go_simp)
   | (refine Ac ?_; go_simp)
   | (refine Ao F ?_; go_simp)
   | (refine Ak ?_; go_simp)
   | (refine AW.skip ?_; go_simp)
   | (refine AW.exit ?_; go_simp)
   | (refine AW.ret ?_; go_simp)
   | refine ⟨fun h => ?_, fun h => ?_⟩
   | intro h
 have hnI : (l1.length : Int) = (b1.length : Int) + 1 := by omega
 rcases b1 with _ | ⟨x, _ | ⟨y, _ | ⟨z, r⟩⟩⟩
 ·rw [show Ai (.mk 6 t1 m1 q1 l1 []) = false by simp [Ai]]
  have hnJ : (l1.length : Int) = 1 := by simpa using hnI
  refine ACalls.enter Tryz.func43 rfl rfl gk Tryz.ntmps43 fun X F => ?_
  repeat' first
   | refine AW.seq ?_
   | refine AW.block ?_
   | (refine Ah F [0, 1, 2, 3, 4, 5, 6, 7] [8, 9, 10, 11, 12, 13, 14, 15, 16, 17, 18, 19, 20, 21, 22, 23, 24, 25, 26, 27, 28, 29, 30, 31, 32, 33, 34, 35, 36] (by rfl) ?_; go_simp)
   | (refine AM [8, 9, 10, 11, 12, 13, 14, 15] [16, 17, 18, 19, 20, 21, 22, 23, 24, 25, 26, 27, 28, 29, 30, 31, 32, 33, 34, 35, 36] ?_; go_simp)
   | (refine AM [16, 17, 18, 19, 20, 21, 22, 23] [24, 25, 26, 27, 28, 29, 30, 31, 32, 33, 34, 35, 36] ?_; go_simp)
   | (refine AM [24, 25, 26, 27, 28, 29, 30, 31] [32, 33, 34, 35, 36] ?_; go_simp)
   | (refine Ac ?_; go_simp)
   | (refine Ao F ?_; go_simp)
   | (refine Ak ?_; go_simp)
   | (refine AW.skip ?_; go_simp)
   | (refine AW.exit ?_; go_simp)
   | (refine AW.ret ?_; go_simp)
   | refine ⟨fun h => ?_, fun h => ?_⟩
   | intro h
 ·have hnJ : (l1.length : Int) = 2 := by rw [hnI]; rfl
  have co : ACalls Tryz.prog G 64 none [sI x, .sl [[sI ⟨#[102, 114, 111, 109]⟩], [sI ⟨#[116, 111]⟩]] false] (.ret (bI (inB [A6, toB] x)) []) := M3 gk [A6, toB] x; rw [show Ai (.mk 6 t1 m1 q1 l1 [x]) = inB [A6, toB] x by
   have : l1.length = 2 := by omega
   simp [Ai, this, inB, eq_comm]]
  generalize inB [A6, toB] x = bb at co ⊢; cases bb
  all_goals
   refine ACalls.enter Tryz.func43 rfl rfl gk Tryz.ntmps43 fun X F => ?_
   repeat' first
    | refine AW.seq ?_
    | refine AW.block ?_
    | (refine Ah F [0, 1, 2, 3, 4, 5, 6, 7] [8, 9, 10, 11, 12, 13, 14, 15, 16, 17, 18, 19, 20, 21, 22, 23, 24, 25, 26, 27, 28, 29, 30, 31, 32, 33, 34, 35, 36] (by rfl) ?_; go_simp)
    | (refine AM [8, 9, 10, 11, 12, 13, 14, 15] [16, 17, 18, 19, 20, 21, 22, 23, 24, 25, 26, 27, 28, 29, 30, 31, 32, 33, 34, 35, 36] ?_; go_simp)
    | (refine AM [16, 17, 18, 19, 20, 21, 22, 23] [24, 25, 26, 27, 28, 29, 30, 31, 32, 33, 34, 35, 36] ?_; go_simp)
    | (refine AM [24, 25, 26, 27, 28, 29, 30, 31] [32, 33, 34, 35, 36] ?_; go_simp)
    | (refine Ac ?_; go_simp)
    | (refine Ao F ?_; go_simp)
    | (refine Ak ?_; go_simp)
    | (refine AW.skip ?_; go_simp)
    | (refine AW.exit ?_; go_simp)
    | (refine AW.ret ?_; go_simp)
    | (refine ⟨_, co, ?_⟩; go_simp)
    | refine ⟨fun h => ?_, fun h => ?_⟩
    | intro h
 ·have hnJ : (l1.length : Int) = 3 := by rw [hnI]; rfl
  rw [show Ai (.mk 6 t1 m1 q1 l1 [x, y]) = decide (x = A6 ∧ y = toB) by
   have : l1.length = 3 := by omega
   simp [Ai, this]]
  by_cases hx : x = ⟨#[102, 114, 111, 109]⟩
  ·by_cases hy : y = ⟨#[116, 111]⟩
   ·rw [decide_eq_true (show x = A6 ∧ y = toB from ⟨hx, hy⟩)]
    refine ACalls.enter Tryz.func43 rfl rfl gk Tryz.ntmps43 fun X F => ?_
    repeat' first
     | refine AW.seq ?_
     | refine AW.block ?_
     | (refine Ah F [0, 1, 2, 3, 4, 5, 6, 7] [8, 9, 10, 11, 12, 13, 14, 15, 16, 17, 18, 19, 20, 21, 22, 23, 24, 25, 26, 27, 28, 29, 30, 31, 32, 33, 34, 35, 36] (by rfl) ?_; go_simp)
     | (refine AM [8, 9, 10, 11, 12, 13, 14, 15] [16, 17, 18, 19, 20, 21, 22, 23, 24, 25, 26, 27, 28, 29, 30, 31, 32, 33, 34, 35, 36] ?_; go_simp)
     | (refine AM [16, 17, 18, 19, 20, 21, 22, 23] [24, 25, 26, 27, 28, 29, 30, 31, 32, 33, 34, 35, 36] ?_; go_simp)
     | (refine AM [24, 25, 26, 27, 28, 29, 30, 31] [32, 33, 34, 35, 36] ?_; go_simp)
     | (refine Ac ?_; go_simp)
     | (refine Ao F ?_; go_simp)
     | (refine Ak ?_; go_simp)
     | (refine AW.skip ?_; go_simp)
     | (refine AW.exit ?_; go_simp)
     | (refine AW.ret ?_; go_simp)
     | refine ⟨fun h => ?_, fun h => ?_⟩
     | intro h
   rw [decide_eq_false (show ¬ (x = A6 ∧ y = toB) from fun h => hy h.2)]; refine ACalls.enter Tryz.func43 rfl rfl gk Tryz.ntmps43 fun X F => ?_
   repeat' first
    | refine AW.seq ?_
    | refine AW.block ?_
    | (refine Ah F [0, 1, 2, 3, 4, 5, 6, 7] [8, 9, 10, 11, 12, 13, 14, 15, 16, 17, 18, 19, 20, 21, 22, 23, 24, 25, 26, 27, 28, 29, 30, 31, 32, 33, 34, 35, 36] (by rfl) ?_; go_simp)
    | (refine AM [8, 9, 10, 11, 12, 13, 14, 15] [16, 17, 18, 19, 20, 21, 22, 23, 24, 25, 26, 27, 28, 29, 30, 31, 32, 33, 34, 35, 36] ?_; go_simp)
    | (refine AM [16, 17, 18, 19, 20, 21, 22, 23] [24, 25, 26, 27, 28, 29, 30, 31, 32, 33, 34, 35, 36] ?_; go_simp)
    | (refine AM [24, 25, 26, 27, 28, 29, 30, 31] [32, 33, 34, 35, 36] ?_; go_simp)
    | (refine Ac ?_; go_simp)
    | (refine Ao F ?_; go_simp)
    | (refine Ak ?_; go_simp)
    | (refine AW.skip ?_; go_simp)
    | (refine AW.exit ?_; go_simp)
    | (refine AW.ret ?_; go_simp)
    | refine ⟨fun h => ?_, fun h => ?_⟩
    | intro h
  rw [decide_eq_false (show ¬ (x = A6 ∧ y = toB) from fun h => hx h.1)]; refine ACalls.enter Tryz.func43 rfl rfl gk Tryz.ntmps43 fun X F => ?_
  repeat' first
   | refine AW.seq ?_
   | refine AW.block ?_
   | (refine Ah F [0, 1, 2, 3, 4, 5, 6, 7] [8, 9, 10, 11, 12, 13, 14, 15, 16, 17, 18, 19, 20, 21, 22, 23, 24, 25, 26, 27, 28, 29, 30, 31, 32, 33, 34, 35, 36] (by rfl) ?_; go_simp)
   | (refine AM [8, 9, 10, 11, 12, 13, 14, 15] [16, 17, 18, 19, 20, 21, 22, 23, 24, 25, 26, 27, 28, 29, 30, 31, 32, 33, 34, 35, 36] ?_; go_simp)
   | (refine AM [16, 17, 18, 19, 20, 21, 22, 23] [24, 25, 26, 27, 28, 29, 30, 31, 32, 33, 34, 35, 36] ?_; go_simp)
   | (refine AM [24, 25, 26, 27, 28, 29, 30, 31] [32, 33, 34, 35, 36] ?_; go_simp)
   | (refine Ac ?_; go_simp)
   | (refine Ao F ?_; go_simp)
   | (refine Ak ?_; go_simp)
   | (refine AW.skip ?_; go_simp)
   | (refine AW.exit ?_; go_simp)
   | (refine AW.ret ?_; go_simp)
   | refine ⟨fun h => ?_, fun h => ?_⟩
   | intro h
 rw [show Ai (.mk 6 t1 m1 q1 l1 (x :: y :: z :: r)) = false by simp [Ai]]; have hn2 : ¬ (l1.length : Int) = 2 := by simp at hnI; omega
 have hn3 : ¬ (l1.length : Int) = 3 := by simp at hnI; omega
 have hrr := rng ((r.length : Int) + 1 + 1 + 1 + 1) (by simp at hrb; omega); refine ACalls.enter Tryz.func43 rfl rfl gk Tryz.ntmps43 fun X F => ?_
 repeat' first
  | refine AW.seq ?_
  | refine AW.block ?_
  | (refine Ah F [0, 1, 2, 3, 4, 5, 6, 7] [8, 9, 10, 11, 12, 13, 14, 15, 16, 17, 18, 19, 20, 21, 22, 23, 24, 25, 26, 27, 28, 29, 30, 31, 32, 33, 34, 35, 36] (by rfl) ?_; go_simp)
  | (refine AM [8, 9, 10, 11, 12, 13, 14, 15] [16, 17, 18, 19, 20, 21, 22, 23, 24, 25, 26, 27, 28, 29, 30, 31, 32, 33, 34, 35, 36] ?_; go_simp)
  | (refine AM [16, 17, 18, 19, 20, 21, 22, 23] [24, 25, 26, 27, 28, 29, 30, 31, 32, 33, 34, 35, 36] ?_; go_simp)
  | (refine AM [24, 25, 26, 27, 28, 29, 30, 31] [32, 33, 34, 35, 36] ?_; go_simp)
  | (refine Ac ?_; go_simp)
  | (refine Ao F ?_; go_simp)
  | (refine Ak ?_; go_simp)
  | (refine AW.skip ?_; go_simp)
  | (refine AW.exit ?_; go_simp)
  | (refine AW.ret ?_; go_simp)
  | refine ⟨fun h => ?_, fun h => ?_⟩
  | intro h
theorem UW (gk : GK G) (hN : Ki G) (hQ : Ku G) (n : NJ) (hn : Cy n) : ACalls Tryz.prog G 43 none [.agg (Ag n)] (.ret (bI (Ai n)) []) := by
 obtain ⟨k1, t1, m1, q1, l1, b1⟩ := n; obtain ⟨_, hm, _, hs, hb, _⟩ := hn; have cn := hN m1 q1 hm; have cq := hQ t1 hs; have co : ACalls Tryz.prog G 64 none [sI t1, .sl [[sI ⟨#[61, 61]⟩], [sI ⟨#[33, 61]⟩], [sI ⟨#[60]⟩], [sI ⟨#[60, 61]⟩], [sI ⟨#[62]⟩], [sI ⟨#[62, 61]⟩], [sI ⟨#[43]⟩], [sI ⟨#[45]⟩], [sI ⟨#[42]⟩], [sI ⟨#[47]⟩], [sI ⟨#[37]⟩]] false] (.ret (bI (inB Eh t1)) []) := M3 gk Eh t1; by_cases hk : k1 = 1 ∨ k1 = 26
 ·rcases hk with rfl | rfl
  all_goals
   by_cases hn : l1.length = 0
   ·rw [show Ai (.mk _ t1 m1 q1 l1 b1) = true by simp [Ai, hn]]
    have hnI : (l1.length : Int) = 0 := by omega
    refine ACalls.enter Tryz.func43 rfl rfl gk Tryz.ntmps43 fun X F => ?_
    repeat' first
     | refine AW.seq ?_
     | refine AW.block ?_
     | (refine Ao F ?_; go_simp)
     | (refine Ak ?_; go_simp)
     | (refine AW.skip ?_; go_simp)
     | (refine AW.exit ?_; go_simp)
     | (refine AW.ret ?_; go_simp)
     | refine ⟨fun h => ?_, fun h => ?_⟩
     | intro h
   rw [show Ai (.mk _ t1 m1 q1 l1 b1) = false by simp [Ai, hn]]; have hnI : ¬ (l1.length : Int) = 0 := by omega
   refine ACalls.enter Tryz.func43 rfl rfl gk Tryz.ntmps43 fun X F => ?_
   repeat' first
    | refine AW.seq ?_
    | refine AW.block ?_
    | (refine Ao F ?_; go_simp)
    | (refine Ak ?_; go_simp)
    | (refine AW.skip ?_; go_simp)
    | (refine AW.exit ?_; go_simp)
    | (refine AW.ret ?_; go_simp)
    | refine ⟨fun h => ?_, fun h => ?_⟩
    | intro h
 by_cases hk : k1 = 2
 ·subst hk
  all_goals
   by_cases hn : l1.length = 0
   ·rw [show Ai (.mk _ t1 m1 q1 l1 b1) = (right m1 q1 && decide (0 ≤ m1)) by simp [Ai, hn]]
    have hnI : (l1.length : Int) = 0 := by omega
    cases hr : right m1 q1
    ·rw [hr] at cn
     refine ACalls.enter Tryz.func43 rfl rfl gk Tryz.ntmps43 fun X F => ?_
     repeat' first
      | refine AW.seq ?_
      | refine AW.block ?_
      | (refine Ao F ?_; go_simp)
      | (refine Ak ?_; go_simp)
      | (refine AW.skip ?_; go_simp)
      | (refine AW.exit ?_; go_simp)
      | (refine AW.ret ?_; go_simp)
      | (refine ⟨_, cn, ?_⟩; go_simp)
      | refine ⟨fun h => ?_, fun h => ?_⟩
      | intro h
    rw [hr] at cn; rw [Bool.true_and]; by_cases h0 : 0 ≤ m1
    ·rw [decide_eq_true h0]
     refine ACalls.enter Tryz.func43 rfl rfl gk Tryz.ntmps43 fun X F => ?_
     repeat' first
      | refine AW.seq ?_
      | refine AW.block ?_
      | (refine Ao F ?_; go_simp)
      | (refine Ak ?_; go_simp)
      | (refine AW.skip ?_; go_simp)
      | (refine AW.exit ?_; go_simp)
      | (refine AW.ret ?_; go_simp)
      | (refine ⟨_, cn, ?_⟩; go_simp)
      | refine ⟨fun h => ?_, fun h => ?_⟩
      | intro h
    rw [decide_eq_false h0]; refine ACalls.enter Tryz.func43 rfl rfl gk Tryz.ntmps43 fun X F => ?_
    repeat' first
     | refine AW.seq ?_
     | refine AW.block ?_
     | (refine Ao F ?_; go_simp)
     | (refine Ak ?_; go_simp)
     | (refine AW.skip ?_; go_simp)
     | (refine AW.exit ?_; go_simp)
     | (refine AW.ret ?_; go_simp)
     | (refine ⟨_, cn, ?_⟩; go_simp)
     | refine ⟨fun h => ?_, fun h => ?_⟩
     | intro h
   rw [show Ai (.mk _ t1 m1 q1 l1 b1) = false by simp [Ai, hn]]; have hnI : ¬ (l1.length : Int) = 0 := by omega
   refine ACalls.enter Tryz.func43 rfl rfl gk Tryz.ntmps43 fun X F => ?_
   repeat' first
    | refine AW.seq ?_
    | refine AW.block ?_
    | (refine Ao F ?_; go_simp)
    | (refine Ak ?_; go_simp)
    | (refine AW.skip ?_; go_simp)
    | (refine AW.exit ?_; go_simp)
    | (refine AW.ret ?_; go_simp)
    | (refine ⟨_, cn, ?_⟩; go_simp)
    | refine ⟨fun h => ?_, fun h => ?_⟩
    | intro h
 by_cases hk : k1 = 3
 ·subst hk
  all_goals
   by_cases hn : l1.length = 0
   ·rw [show Ai (.mk _ t1 m1 q1 l1 b1) = Lib.validD t1.data.toList by simp [Ai, hn]]
    have hnI : (l1.length : Int) = 0 := by omega
    refine ACalls.enter Tryz.func43 rfl rfl gk Tryz.ntmps43 fun X F => ?_
    repeat' first
     | refine AW.seq ?_
     | refine AW.block ?_
     | (refine Ao F ?_; go_simp)
     | (refine Ak ?_; go_simp)
     | (refine AW.skip ?_; go_simp)
     | (refine AW.exit ?_; go_simp)
     | (refine AW.ret ?_; go_simp)
     | (refine ⟨_, cq, ?_⟩; go_simp)
     | refine ⟨fun h => ?_, fun h => ?_⟩
     | intro h
   rw [show Ai (.mk _ t1 m1 q1 l1 b1) = false by simp [Ai, hn]]; have hnI : ¬ (l1.length : Int) = 0 := by omega
   refine ACalls.enter Tryz.func43 rfl rfl gk Tryz.ntmps43 fun X F => ?_
   repeat' first
    | refine AW.seq ?_
    | refine AW.block ?_
    | (refine Ao F ?_; go_simp)
    | (refine Ak ?_; go_simp)
    | (refine AW.skip ?_; go_simp)
    | (refine AW.exit ?_; go_simp)
    | (refine AW.ret ?_; go_simp)
    | (refine ⟨_, cq, ?_⟩; go_simp)
    | refine ⟨fun h => ?_, fun h => ?_⟩
    | intro h
 by_cases hk : k1 = 4
 ·subst hk
  exact Tp gk t1 m1 q1 l1 b1
 by_cases hk : k1 = 5 ∨ k1 = 8 ∨ k1 = 9 ∨ k1 = 11 ∨ k1 = 12 ∨ k1 = 13
 ·rcases hk with rfl | rfl | rfl | rfl | rfl | rfl
  all_goals
   by_cases hn : l1.length = 2
   ·rw [show Ai (.mk _ t1 m1 q1 l1 b1) = true by simp [Ai, hn]]
    have hnI : (l1.length : Int) = 2 := by omega
    refine ACalls.enter Tryz.func43 rfl rfl gk Tryz.ntmps43 fun X F => ?_
    repeat' first
     | refine AW.seq ?_
     | refine AW.block ?_
     | (refine Ao F ?_; go_simp)
     | (refine Ak ?_; go_simp)
     | (refine AW.skip ?_; go_simp)
     | (refine AW.exit ?_; go_simp)
     | (refine AW.ret ?_; go_simp)
     | refine ⟨fun h => ?_, fun h => ?_⟩
     | intro h
   rw [show Ai (.mk _ t1 m1 q1 l1 b1) = false by simp [Ai, hn]]; have hnI : ¬ (l1.length : Int) = 2 := by omega
   refine ACalls.enter Tryz.func43 rfl rfl gk Tryz.ntmps43 fun X F => ?_
   repeat' first
    | refine AW.seq ?_
    | refine AW.block ?_
    | (refine Ao F ?_; go_simp)
    | (refine Ak ?_; go_simp)
    | (refine AW.skip ?_; go_simp)
    | (refine AW.exit ?_; go_simp)
    | (refine AW.ret ?_; go_simp)
    | refine ⟨fun h => ?_, fun h => ?_⟩
    | intro h
 by_cases hk : k1 = 6
 ·subst hk
  exact Tx gk t1 m1 q1 l1 b1
 by_cases hk : k1 = 7 ∨ k1 = 14
 ·rcases hk with rfl | rfl
  all_goals
   by_cases hn : l1.length = 1
   ·rw [show Ai (.mk _ t1 m1 q1 l1 b1) = true by simp [Ai, hn]]
    have hnI : (l1.length : Int) = 1 := by omega
    refine ACalls.enter Tryz.func43 rfl rfl gk Tryz.ntmps43 fun X F => ?_
    repeat' first
     | refine AW.seq ?_
     | refine AW.block ?_
     | (refine Ao F ?_; go_simp)
     | (refine Ak ?_; go_simp)
     | (refine AW.skip ?_; go_simp)
     | (refine AW.exit ?_; go_simp)
     | (refine AW.ret ?_; go_simp)
     | refine ⟨fun h => ?_, fun h => ?_⟩
     | intro h
   rw [show Ai (.mk _ t1 m1 q1 l1 b1) = false by simp [Ai, hn]]; have hnI : ¬ (l1.length : Int) = 1 := by omega
   refine ACalls.enter Tryz.func43 rfl rfl gk Tryz.ntmps43 fun X F => ?_
   repeat' first
    | refine AW.seq ?_
    | refine AW.block ?_
    | (refine Ao F ?_; go_simp)
    | (refine Ak ?_; go_simp)
    | (refine AW.skip ?_; go_simp)
    | (refine AW.exit ?_; go_simp)
    | (refine AW.ret ?_; go_simp)
    | refine ⟨fun h => ?_, fun h => ?_⟩
    | intro h
 by_cases hk : k1 = 10
 ·subst hk
  all_goals
   by_cases hn : l1.length = 2
   ·rw [show Ai (.mk _ t1 m1 q1 l1 b1) = inB Eh t1 by simp [Ai, hn]]
    have hnI : (l1.length : Int) = 2 := by omega
    refine ACalls.enter Tryz.func43 rfl rfl gk Tryz.ntmps43 fun X F => ?_
    repeat' first
     | refine AW.seq ?_
     | refine AW.block ?_
     | (refine Ao F ?_; go_simp)
     | (refine Ak ?_; go_simp)
     | (refine AW.skip ?_; go_simp)
     | (refine AW.exit ?_; go_simp)
     | (refine AW.ret ?_; go_simp)
     | (refine ⟨_, co, ?_⟩; go_simp)
     | refine ⟨fun h => ?_, fun h => ?_⟩
     | intro h
   rw [show Ai (.mk _ t1 m1 q1 l1 b1) = false by simp [Ai, hn]]; have hnI : ¬ (l1.length : Int) = 2 := by omega
   refine ACalls.enter Tryz.func43 rfl rfl gk Tryz.ntmps43 fun X F => ?_
   repeat' first
    | refine AW.seq ?_
    | refine AW.block ?_
    | (refine Ao F ?_; go_simp)
    | (refine Ak ?_; go_simp)
    | (refine AW.skip ?_; go_simp)
    | (refine AW.exit ?_; go_simp)
    | (refine AW.ret ?_; go_simp)
    | (refine ⟨_, co, ?_⟩; go_simp)
    | refine ⟨fun h => ?_, fun h => ?_⟩
    | intro h
 by_cases hk : k1 = 15
 ·subst hk
  by_cases hn : l1.length ≤ 1
  ·rw [show Ai (.mk _ t1 m1 q1 l1 b1) = true by simp [Ai, hn]]
   have hnI : (l1.length : Int) ≤ 1 := by omega
   refine ACalls.enter Tryz.func43 rfl rfl gk Tryz.ntmps43 fun X F => ?_
   repeat' first
    | refine AW.seq ?_
    | refine AW.block ?_
    | (refine Ao F ?_; go_simp)
    | (refine Ak ?_; go_simp)
    | (refine AW.skip ?_; go_simp)
    | (refine AW.exit ?_; go_simp)
    | (refine AW.ret ?_; go_simp)
    | refine ⟨fun h => ?_, fun h => ?_⟩
    | intro h
  rw [show Ai (.mk _ t1 m1 q1 l1 b1) = false by simp [Ai]; omega]; have hnI : ¬ (l1.length : Int) ≤ 1 := by omega
  refine ACalls.enter Tryz.func43 rfl rfl gk Tryz.ntmps43 fun X F => ?_
  repeat' first
   | refine AW.seq ?_
   | refine AW.block ?_
   | (refine Ao F ?_; go_simp)
   | (refine Ak ?_; go_simp)
   | (refine AW.skip ?_; go_simp)
   | (refine AW.exit ?_; go_simp)
   | (refine AW.ret ?_; go_simp)
   | refine ⟨fun h => ?_, fun h => ?_⟩
   | intro h
 by_cases hk : k1 = 16
 ·subst hk
  by_cases hn : l1.length % 2 = 0
  ·rw [show Ai (.mk _ t1 m1 q1 l1 b1) = true by simp [Ai, hn]]
   have hnI : (l1.length : Int).tmod 2 = 0 := by rw [Int.tmod_eq_emod_of_nonneg (by omega)]; omega
   refine ACalls.enter Tryz.func43 rfl rfl gk Tryz.ntmps43 fun X F => ?_
   repeat' first
    | refine AW.seq ?_
    | refine AW.block ?_
    | (refine Ao F ?_; go_simp)
    | (refine Ak ?_; go_simp)
    | (refine AW.skip ?_; go_simp)
    | (refine AW.exit ?_; go_simp)
    | (refine AW.ret ?_; go_simp)
    | refine ⟨fun h => ?_, fun h => ?_⟩
    | intro h
  rw [show Ai (.mk _ t1 m1 q1 l1 b1) = false by simp [Ai, hn]]; have hnI : ¬ (l1.length : Int).tmod 2 = 0 := by rw [Int.tmod_eq_emod_of_nonneg (by omega)]; omega
  refine ACalls.enter Tryz.func43 rfl rfl gk Tryz.ntmps43 fun X F => ?_
  repeat' first
   | refine AW.seq ?_
   | refine AW.block ?_
   | (refine Ao F ?_; go_simp)
   | (refine Ak ?_; go_simp)
   | (refine AW.skip ?_; go_simp)
   | (refine AW.exit ?_; go_simp)
   | (refine AW.ret ?_; go_simp)
   | refine ⟨fun h => ?_, fun h => ?_⟩
   | intro h
 by_cases hk : k1 = 17
 ·subst hk
  all_goals
   by_cases hn : l1.length = 3
   ·rw [show Ai (.mk _ t1 m1 q1 l1 b1) = true by simp [Ai, hn]]
    have hnI : (l1.length : Int) = 3 := by omega
    refine ACalls.enter Tryz.func43 rfl rfl gk Tryz.ntmps43 fun X F => ?_
    repeat' first
     | refine AW.seq ?_
     | refine AW.block ?_
     | (refine Ao F ?_; go_simp)
     | (refine Ak ?_; go_simp)
     | (refine AW.skip ?_; go_simp)
     | (refine AW.exit ?_; go_simp)
     | (refine AW.ret ?_; go_simp)
     | refine ⟨fun h => ?_, fun h => ?_⟩
     | intro h
   rw [show Ai (.mk _ t1 m1 q1 l1 b1) = false by simp [Ai, hn]]; have hnI : ¬ (l1.length : Int) = 3 := by omega
   refine ACalls.enter Tryz.func43 rfl rfl gk Tryz.ntmps43 fun X F => ?_
   repeat' first
    | refine AW.seq ?_
    | refine AW.block ?_
    | (refine Ao F ?_; go_simp)
    | (refine Ak ?_; go_simp)
    | (refine AW.skip ?_; go_simp)
    | (refine AW.exit ?_; go_simp)
    | (refine AW.ret ?_; go_simp)
    | refine ⟨fun h => ?_, fun h => ?_⟩
    | intro h
 by_cases hk : k1 = 18
 ·subst hk
  by_cases hn : l1.length = 1
  ·rw [show Ai (.mk _ t1 m1 q1 l1 b1) = true by simp [Ai, hn]]
   have hnI : (l1.length : Int) = 1 := by omega
   refine ACalls.enter Tryz.func43 rfl rfl gk Tryz.ntmps43 fun X F => ?_
   repeat' first
    | refine AW.seq ?_
    | refine AW.block ?_
    | (refine Ao F ?_; go_simp)
    | (refine Ak ?_; go_simp)
    | (refine AW.skip ?_; go_simp)
    | (refine AW.exit ?_; go_simp)
    | (refine AW.ret ?_; go_simp)
    | refine ⟨fun h => ?_, fun h => ?_⟩
    | intro h
  have hnI : ¬ (l1.length : Int) = 1 := by omega
  by_cases hn2 : l1.length = 2
  ·rw [show Ai (.mk _ t1 m1 q1 l1 b1) = true by simp [Ai, hn2]]
   have hnJ : (l1.length : Int) = 2 := by omega
   refine ACalls.enter Tryz.func43 rfl rfl gk Tryz.ntmps43 fun X F => ?_
   repeat' first
    | refine AW.seq ?_
    | refine AW.block ?_
    | (refine Ao F ?_; go_simp)
    | (refine Ak ?_; go_simp)
    | (refine AW.skip ?_; go_simp)
    | (refine AW.exit ?_; go_simp)
    | (refine AW.ret ?_; go_simp)
    | refine ⟨fun h => ?_, fun h => ?_⟩
    | intro h
  rw [show Ai (.mk _ t1 m1 q1 l1 b1) = false by simp [Ai, hn, hn2]]; have hnJ : ¬ (l1.length : Int) = 2 := by omega
  refine ACalls.enter Tryz.func43 rfl rfl gk Tryz.ntmps43 fun X F => ?_
  repeat' first
   | refine AW.seq ?_
   | refine AW.block ?_
   | (refine Ao F ?_; go_simp)
   | (refine Ak ?_; go_simp)
   | (refine AW.skip ?_; go_simp)
   | (refine AW.exit ?_; go_simp)
   | (refine AW.ret ?_; go_simp)
   | refine ⟨fun h => ?_, fun h => ?_⟩
   | intro h
 have g1 : ¬ k1 = 1 := by omega
 have g2 : ¬ k1 = 2 := by omega
 have g3 : ¬ k1 = 3 := by omega
 have g4 : ¬ k1 = 4 := by omega
 have g5 : ¬ k1 = 5 := by omega
 have g6 : ¬ k1 = 6 := by omega
 have g7 : ¬ k1 = 7 := by omega
 have g8 : ¬ k1 = 8 := by omega
 have g9 : ¬ k1 = 9 := by omega
 have g10 : ¬ k1 = 10 := by omega
 have g11 : ¬ k1 = 11 := by omega
 have g12 : ¬ k1 = 12 := by omega
 have g13 : ¬ k1 = 13 := by omega
 have g14 : ¬ k1 = 14 := by omega
 have g15 : ¬ k1 = 15 := by omega
 have g16 : ¬ k1 = 16 := by omega
 have g17 : ¬ k1 = 17 := by omega
 have g18 : ¬ k1 = 18 := by omega
 have g26 : ¬ k1 = 26 := by omega
 have cb := SR gk k1 t1 m1 q1 l1 b1 hs hb (by omega); refine ACalls.enter Tryz.func43 rfl rfl gk Tryz.ntmps43 fun X F => ?_
 repeat' first
  | refine AW.seq ?_
  | refine AW.block ?_
  | (refine Ao F ?_; go_simp)
  | (refine Ak ?_; go_simp)
  | (refine AW.skip ?_; go_simp)
  | (refine AW.exit ?_; go_simp)
  | (refine AW.ret ?_; go_simp)
  | (refine ⟨_, cb, ?_⟩; go_simp)
  | refine ⟨fun h => ?_, fun h => ?_⟩
  | intro h
open Go Go.RowKit Go.Proofs Th
set_option maxRecDepth 8000
variable {G : World → CS → Prop}
def DK (L s : ByteArray) : Nat → Nat → Nat → Bool
 | 0, _, _ => false
 | n + 1, f, i => if i = L.size ∨ L.data.toList[i]? = some 32 then (if L.extract f i = s ∧ ¬ s = ⟨#[]⟩ then true else DK L s n (i + 1) (i + 1)) else DK L s n f (i + 1)
theorem SC (gk : GK G) (s L : ByteArray) (hL : L.size ≤ 1000) : ACalls Tryz.prog G 68 none [sI s, sI L] (.ret (bI (DK L s (L.size + 1) 0 0)) []) := by
 obtain ⟨z, hz⟩ : ∃ z, DK L s (L.size + 1) 0 0 = z := ⟨_, rfl⟩
 rw [hz]; refine ACalls.enter Tryz.func68 rfl rfl gk Tryz.ntmps68 fun X F => ?_
 (iterate 3 apply Ar F;go_simp);(repeat apply Aq);apply Ab;(repeat apply Aq);refine A9 [0, 1, 5, 6] [1000] (by decide) (fun g t => ∃ (f i : Nat), t = mkS [(0, .im (sI s)), (1, .im (sI L)), (5, .im (iI f)), (6, .im (iI i))] [(1000, .none)] ∧ g = L.size + 1 - i ∧ i ≤ L.size + 1 ∧ f ≤ i ∧ DK L s (L.size + 1 - i) f i = z) (L.size + 1) ?_ ?_
 ·refine ⟨0, 0, ?_, by omega, by omega, by omega, hz⟩
  go_simp
 rintro g t ⟨f, i, rfl, rfl, hk, hf, hg⟩; by_cases hkt : i ≤ L.size
 ·have hkI : (i : Int) ≤ (L.size : Int) := by omega
  have hrk := rng ((i : Int) + 1) (by omega); rw [show L.size + 1 - i = (L.size - i) + 1 by omega, DK] at hg; rw [show L.size - i = L.size + 1 - (i + 1) by omega] at hg; by_cases hl : i = L.size
  ·subst hl
   rw [if_pos (.inl rfl)] at hg; apply Ar F; go_simp; (repeat apply Aq); refine At (by go_simp) ?_; apply As; go_simp; (repeat apply Aq); apply Ab; have hfl : f ≤ L.size := by omega
   have hsl : (0 : Int) ≤ (f : Int) ∧ (f : Int) ≤ (L.size : Int) ∧ (L.size : Int) ≤ (L.size : Int) := by omega
   by_cases he : L.extract f L.size = s
   ·by_cases h0 : s = ⟨#[]⟩
    ·rw [if_neg (fun h => h.2 h0)] at hg
     subst h0; apply Ar F; go_simp; (repeat apply Aq); refine At (by go_simp) ?_; apply Ar F; go_simp; (repeat apply Aq); refine Af (by go_simp) ?_; apply As; go_simp; apply Ar F; go_simp; apply Ar F; go_simp; first
      | refine ⟨L.size + 1 - (L.size + 1), by omega, L.size + 1, L.size + 1, ?_, by omega, by omega, by omega, hg⟩
      | refine ⟨L.size + 1, L.size + 1, ?_, by omega, by omega, by omega, hg⟩
     go_simp
    rw [if_pos ⟨he, h0⟩] at hg;subst hg;(iterate 2 apply Ar F;go_simp;(repeat apply Aq);refine At (by go_simp) ?_);apply Ar F;go_simp;apply Au;go_simp
   rw [if_neg (fun h => he h.1)] at hg; apply Ar F; go_simp; (repeat apply Aq); refine At (by go_simp) ?_; apply Ar F; go_simp; (repeat apply Aq); refine Af (by go_simp) ?_; apply As; go_simp; apply Ar F; go_simp; apply Ar F; go_simp; first
    | refine ⟨L.size + 1 - (L.size + 1), by omega, L.size + 1, L.size + 1, ?_, by omega, by omega, by omega, hg⟩
    | refine ⟨L.size + 1, L.size + 1, ?_, by omega, by omega, by omega, hg⟩
   go_simp
  have hlI : ¬ (i : Int) = (L.size : Int) := by omega
  have hlt : i < L.size := by omega
  have hat := Iw hlt; obtain ⟨c, hc⟩ : ∃ c, L[i] = c := ⟨_, rfl⟩
  rw [hc] at hat; have hcd : L.data[i]'hlt = c := hc; rw [hat] at hg; by_cases hw : c = 32
  ·rw [if_pos (.inr (by rw [hw]))] at hg
   subst hw; apply Ar F; go_simp; (repeat apply Aq); refine At (by go_simp) ?_; apply As; go_simp; (repeat apply Aq); apply Ab; have hfl : f ≤ L.size := by omega
   have hsl : (0 : Int) ≤ (f : Int) ∧ (f : Int) ≤ (i : Int) ∧ (i : Int) ≤ (L.size : Int) := by omega
   by_cases he : L.extract f i = s
   ·by_cases h0 : s = ⟨#[]⟩
    ·rw [if_neg (fun h => h.2 h0)] at hg
     subst h0; apply Ar F; go_simp; (repeat apply Aq); refine At (by go_simp) ?_; apply Ar F; go_simp; (repeat apply Aq); refine Af (by go_simp) ?_; apply As; go_simp; apply Ar F; go_simp; apply Ar F; go_simp; first
      | refine ⟨L.size + 1 - (i + 1), by omega, i + 1, i + 1, ?_, by omega, by omega, by omega, hg⟩
      | refine ⟨L.size + 1, L.size + 1, ?_, by omega, by omega, by omega, hg⟩
     go_simp
    rw [if_pos ⟨he, h0⟩] at hg;subst hg;(iterate 2 apply Ar F;go_simp;(repeat apply Aq);refine At (by go_simp) ?_);apply Ar F;go_simp;apply Au;go_simp
   rw [if_neg (fun h => he h.1)] at hg; apply Ar F; go_simp; (repeat apply Aq); refine At (by go_simp) ?_; apply Ar F; go_simp; (repeat apply Aq); refine Af (by go_simp) ?_; apply As; go_simp; apply Ar F; go_simp; apply Ar F; go_simp; first
    | refine ⟨L.size + 1 - (i + 1), by omega, i + 1, i + 1, ?_, by omega, by omega, by omega, hg⟩
    | refine ⟨L.size + 1, L.size + 1, ?_, by omega, by omega, by omega, hg⟩
   go_simp
  have hwI : ¬ (c.toNat : Int) = 32 := fun h => hw (UInt8.toNat_inj.1 (by show c.toNat = 32; omega))
  rw [if_neg (fun h => h.elim hl (fun h => hw (by injection h)))] at hg; apply Ar F; go_simp; (repeat apply Aq); refine At (by go_simp) ?_; apply As; go_simp; (repeat apply Aq); apply Ab; apply Ar F; go_simp; (repeat apply Aq); refine Af (by go_simp) ?_; apply As; go_simp; apply Ar F; go_simp; first
   | refine ⟨L.size + 1 - (i + 1), by omega, f, i + 1, ?_, by omega, by omega, by omega, hg⟩
   | refine ⟨L.size + 1, L.size + 1, ?_, by omega, by omega, by omega, hg⟩
  go_simp
 have hkI : ¬ (i : Int) ≤ (L.size : Int) := by omega
 rw [show L.size + 1 - i = 0 by omega, DK] at hg; subst hg; apply Ar F; go_simp; (repeat apply Aq); refine Af (by go_simp) ?_; apply Ae; go_simp; apply Ar F; go_simp; apply Au; go_simp
theorem KX (s : ByteArray) (hs : s.size ≤ 100000000) : ACalls Tryz.prog G 69 none [sI s] (.ret (bI (B4 s)) []) :=
 CP (us := [.string s]) ⟨_, Tryz.func69, rfl, rfl⟩ fun W S _ => (Uu s hs W).mono fun e W' ⟨he, hw⟩ => by rw [he, hw]; exact ⟨rfl, Below.refl _ _⟩
theorem NN (gk : GK G) (hR : ∀ s : ByteArray, ACalls Tryz.prog G 101 none [sI s] (.ret (bI (inB words13 s)) [])) (s : ByteArray) (hs : s.size ≤ 100000000) : ACalls Tryz.prog G 70 none [sI s] (.ret (bI (CK s)) []) := by
 have cn := KX (G := G) s hs; have cr := hR s; unfold CK; generalize B4 s = nn at cn ⊢; cases nn
 all_goals
  refine ACalls.enter Tryz.func70 rfl rfl gk Tryz.ntmps70 fun X F => ?_
  repeat' first
   | refine AW.seq ?_
   | refine AW.block ?_
   | (refine Ao F ?_; go_simp)
   | (refine Ak ?_; go_simp)
   | (refine AW.skip ?_; go_simp)
   | (refine AW.exit ?_; go_simp)
   | (refine AW.ret ?_; go_simp)
   | (refine ⟨_, cn, ?_⟩; go_simp)
   | (refine ⟨_, cr, ?_⟩; go_simp)
   | refine ⟨fun h => ?_, fun h => ?_⟩
   | intro h
theorem U5 (s : ByteArray) : DK ⟨#[102, 114, 111, 109, 32, 116, 111]⟩ s 8 0 0 = inB [A6, toB] s := by
 have hne : s = ⟨#[]⟩ → inB [A6, toB] s = false := fun h => by subst h; decide
 by_cases h : s = ⟨#[]⟩
 ·rw [hne h]; subst h; rfl
 have e : DK ⟨#[102, 114, 111, 109, 32, 116, 111]⟩ s 8 0 0 = ([A6, toB]).any fun q => decide (q = s) := by
  simp only [DK, h, not_false_eq_true, and_true, Bool.if_true_left]; kernel_rfl
 exact e
theorem Uw (s : ByteArray) : DK ⟨#[61, 61, 32, 33, 61, 32, 60, 32, 60, 61, 32, 62, 32, 62, 61, 32, 43, 32, 45, 32, 42, 32, 47, 32, 37]⟩ s 26 0 0 = inB Eh s := by
 have hne : s = ⟨#[]⟩ → inB Eh s = false := fun h => by subst h; decide
 by_cases h : s = ⟨#[]⟩
 ·rw [hne h]; subst h; rfl
 have e : DK ⟨#[61, 61, 32, 33, 61, 32, 60, 32, 60, 61, 32, 62, 32, 62, 61, 32, 43, 32, 45, 32, 42, 32, 47, 32, 37]⟩ s 26 0 0 = (Eh).any fun q => decide (q = s) := by
  simp only [DK, h, not_false_eq_true, and_true, Bool.if_true_left]; kernel_rfl
 exact e
theorem VY (s : ByteArray) : DK ⟨#[61, 32, 124, 61, 32, 43, 61, 32, 45, 61, 32, 42, 61, 32, 47, 61, 32, 47, 47, 61]⟩ s 21 0 0 = inB EH s := by
 have hne : s = ⟨#[]⟩ → inB EH s = false := fun h => by subst h; decide
 by_cases h : s = ⟨#[]⟩
 ·rw [hne h]; subst h; rfl
 have e : DK ⟨#[61, 32, 124, 61, 32, 43, 61, 32, 45, 61, 32, 42, 61, 32, 47, 61, 32, 47, 47, 61]⟩ s 21 0 0 = (EH).any fun q => decide (q = s) := by
  simp only [DK, h, not_false_eq_true, and_true, Bool.if_true_left]; kernel_rfl
 exact e
end Go.Proofs.YtakncilicoefdaaGreatDoor
