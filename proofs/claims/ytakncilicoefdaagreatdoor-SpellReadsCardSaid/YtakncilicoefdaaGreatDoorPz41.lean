/- Lemmas and contracts. Conditions: those that each lemma names. -/
import Derived.Test.YtakncilicoefdaaGreatDoorPz40
import Derived.Test.YtakncilicoefdaaGreatDoorPz38
set_option maxRecDepth 100000
set_option maxHeartbeats 8000000
namespace Go.Proofs.YtakncilicoefdaaGreatDoor
open Go Go.RowKit Go.Proofs Th
set_option maxRecDepth 8000
attribute [local go_sem] sel
attribute [local go_sem] Ah ByteArray.size_append bsz eap ape
variable {G : World → CS → Prop}
theorem UC (gap : ByteArray) : ∀ (ts : List ByteArray) (out : ByteArray), out.size ≤ (Cp gap out ts).size
 | [], out => Nat.le_refl _
 | t :: r, out => by
  have := UC gap r ((if out = ⟨#[]⟩ then out else out ++ gap) ++ t); refine Nat.le_trans ?_ this; rw [ByteArray.size_append]; split
  ·omega
  rw [ByteArray.size_append]; omega
theorem Gp (gk : GK G) (l : List NJ) (gap : ByteArray) (ht : ∀ x ∈ l, AP G x) (hs : ∀ x ∈ l, (spJ x).size ≤ 2000000000000) (hgp : gap.size ≤ 100) (hz : (Cp gap ⟨#[]⟩ (l.map spJ)).size ≤ 2000000000000) : ACalls Tryz.prog G 34 none [.sl (A6 l) false, sI gap] (.ret (sI (Cp gap ⟨#[]⟩ (l.map spJ))) []) := by
 by_cases hlen : l.length ≤ 140737488351232
 case neg => exact ⟨⟨_, Tryz.func34, rfl, rfl⟩, fun W S p us hG hSb hrc hrep => absurd (by have := Gu hrep; rwa [BI] at this) hlen⟩
 obtain ⟨z, hJ0⟩ : ∃ z, Cp gap ⟨#[]⟩ (l.map spJ) = z := ⟨_, rfl⟩
 rw [hJ0] at hz ⊢; refine ACalls.enter Tryz.func34 rfl rfl gk Tryz.ntmps34 fun X F => ?_
 apply Ar F; go_simp; apply Ar F; go_simp; (repeat apply Aq); refine Wk (t1 := 5) (t2 := 3) (b1 := 5) (b2 := 3) (d1 := 9) (d2 := 6) (k1 := 7) (k2 := 2) F rfl ⟨rfl, rfl, rfl, by decide⟩ ⟨rfl, rfl, rfl, by decide⟩ ⟨⟨by go_simp, ⟨_, rfl⟩⟩, by go_simp, ⟨_, rfl⟩⟩ fun p1 p2 => ?_
 go_simp; apply Ar F; go_simp; (repeat apply Aq); apply Ab; (repeat apply Aq); refine Cb [2, 5, 6, 7, 10, 11, 12] [1000, 3, 5] (by decide) (fun g t => ∃ (k : Nat) (out : ByteArray), t = mkS [(2, .pin 3 p2), (5, .ptr 5 0), (6, .im (.v (ET 57 p1 p2))), (7, .pin 5 p1), (10, .im (.sl (A6 l) false)), (11, .im (iI l.length)), (12, .im (iI k))] [(1000, .none), (3, .box [.im (sI gap)]), (5, .box [.im (sI out)])] ∧ g = l.length - k ∧ k ≤ l.length ∧ Cp gap out ((l.map spJ).drop k) = z) (l.length) ?_ ?_
 ·refine ⟨0, ⟨#[]⟩, ?_, by omega, by omega, hJ0⟩
  go_simp
 rintro g t ⟨k, out, rfl, rfl, hk, hg⟩; have ho := UC gap ((l.map spJ).drop k) out; rw [hg] at ho; by_cases hkt : k < l.length
 ·have hkI : (k : Int) < (l.length : Int) := by omega
  have hrk := rng ((k : Int) + 1) (by omega); have hu := hs l[k] (List.getElem_mem hkt); have cx := ht l[k] (List.getElem_mem hkt); unfold AP at cx; rw [List.drop_eq_getElem_cons (by simpa using hkt), List.getElem_map] at hg; generalize spJ l[k] = u at *; obtain ⟨⟨k5, t5, m5, q5, l5, b5⟩, hx5⟩ : ∃ x, l[k] = x := ⟨_, rfl⟩
  rw [hx5] at cx; replace hg : Cp gap (Fv gap out u) ((l.map spJ).drop (k + 1)) = z := hg; apply Ar F; go_simp; (repeat apply Aq); refine At (by go_simp) ?_; apply As; go_simp; (repeat apply Aq); apply Ab; apply Ar F; go_simp; (repeat apply Aq); refine ZG (tc := 16) (ts := 18) (k1 := 7) (k2 := 2) (b1 := 5) (b2 := 3) (p1 := p1) (p2 := p2) (d := 19) F [_, _, _] gap out u rfl ⟨rfl, rfl, rfl, rfl, rfl, by decide⟩ ?_; go_simp; refine ⟨_, cx, ?_⟩; go_simp; refine ⟨⟨by go_simp, by go_simp, by go_simp, by go_simp, by go_simp, by go_simp, by decide, ⟨by omega, by omega⟩, by omega⟩, ?_⟩; go_simp; apply Ar F; go_simp; refine ⟨l.length - (k + 1), by omega, k + 1, Fv gap out u, ?_, by omega, by omega, hg⟩; go_simp
 have hkI : ¬ (k : Int) < (l.length : Int) := by omega
 rw [List.drop_eq_nil_of_le (by rw [List.length_map]; omega)] at hg; replace hg : out = z := hg; subst hg; apply Ar F; go_simp; (repeat apply Aq); refine Af (by go_simp) ?_; apply Ae; go_simp; apply Ar F; go_simp; apply Au; go_simp
open Go Go.RowKit Go.Proofs Th
set_option maxRecDepth 8000
variable {G : World → CS → Prop}
theorem ZH (gk : GK G) (hN : L0 G) (hQ : LS G) : ∀ (d : Nat) (n : NJ), d ≤ 1000 → FE n → ACalls Tryz.prog G 18 none [.agg (Al n), iI d] (.ret (bI (De d n)) []) := by
 intro d; induction d with
 | zero =>
  intro n _ hn; obtain ⟨z, hz⟩ : ∃ z, De 0 n = z := ⟨_, rfl⟩
  rw [hz]; rw [De] at hz; subst hz; obtain ⟨k1, t1, m1, q1, l1, b1⟩ := n; refine ACalls.enter Tryz.func18 rfl rfl gk Tryz.ntmps18 fun X F => ?_
  apply Ar F; go_simp; apply Ar F; go_simp; (repeat apply Aq); refine At (by go_simp) ?_; apply Ar F; go_simp; apply Au; go_simp
 | succ d ih =>
  intro n hd hn; have cb := XD gk n; have cf := YO gk hN hQ n hn; obtain ⟨k1, t1, m1, q1, l1, b1⟩ := n; obtain ⟨_, _, _, _, _, hkl⟩ := hn; have hd0 : ¬ ((d + 1 : Nat) : Int) = 0 := by omega
  obtain ⟨z, hz⟩ : ∃ z, De (d + 1) (.mk k1 t1 m1 q1 l1 b1) = z := ⟨_, rfl⟩
  rw [hz]; rw [De, ES] at hz; generalize AJ (.mk k1 t1 m1 q1 l1 b1) = bv at cb hz; generalize Ac (.mk k1 t1 m1 q1 l1 b1) = fv at cf hz; generalize hD : ((d + 1 : Nat) : Int) = D at *; refine ACalls.enter Tryz.func18 rfl rfl gk Tryz.ntmps18 fun X F => ?_
  cases bv
  ·have hz2 : z = false := by rw [← hz]; simp
   subst hz2; apply Ar F; go_simp; apply Ar F; go_simp; refine ⟨_, cb, ?_⟩; go_simp; (repeat apply Aq); refine At (by go_simp) ?_; apply Ar F; go_simp; apply Au; go_simp
  cases fv
  ·have hz2 : z = false := by rw [← hz]; simp
   subst hz2; apply Ar F; go_simp; apply Ar F; go_simp; refine ⟨_, cb, ?_⟩; go_simp; refine ⟨_, cf, ?_⟩; go_simp; (repeat apply Aq); refine At (by go_simp) ?_; apply Ar F; go_simp; apply Au; go_simp
  rw [Bool.true_and, Bool.true_and, La] at hz; apply Ar F; go_simp; apply Ar F; go_simp; refine ⟨_, cb, ?_⟩; go_simp; refine ⟨_, cf, ?_⟩; go_simp; (repeat apply Aq); refine Af (by go_simp) ?_; apply As; go_simp; (repeat apply Aq); refine ZP (l1.any (fun k => !De d k)) (f := 44) (fc := 45) (t := 3) (u := 18) (b := 3) (d1 := 19) (d2 := 20) F gk [_, _] [_, _] _ _ rfl (by decide) ⟨rfl, rfl, rfl, by decide⟩ ⟨rfl, rfl, rfl, rfl, rfl, by decide⟩ ?_; go_simp; refine ⟨⟨by go_simp, ((d + 1 : Nat) : Int), A6 l1, by rw [hD]; go_simp, by go_simp, fun g o => PU (gkL gk) l1 g o _ fun x hx => WJ gk d (by omega) x g o (ih x (by omega) ((K5 l1).1 hkl x hx))⟩, ?_⟩; go_simp; apply Au; go_simp; rw [← hz]; exact List.all_eq_not_any_not ..
theorem K8 (gk : GK G) (hN : L0 G) (hQ : LS G) (n : NJ) (hn : FE n) : ACalls Tryz.prog G 11 none [.agg (Al n)] (.ret (bI (De 48 n)) []) := by
 have cm := ZH gk hN hQ 48 n (by decide) hn; generalize De 48 n = z at cm; rw [show ((48 : Nat) : Int) = 48 from rfl] at cm; obtain ⟨k1, t1, m1, q1, l1, b1⟩ := n; refine ACalls.enter Tryz.func11 rfl rfl gk Tryz.ntmps11 fun X F => ?_
 apply Ar F; go_simp; apply Ar F; go_simp; refine ⟨_, cm, ?_⟩; go_simp; apply Au; go_simp
open Go Go.RowKit Go.Proofs Th
set_option maxRecDepth 8000
def RK (n : Int) : NJ := .mk 2 ⟨#[]⟩ n 0 [] []
attribute [local go_sem] RK sel
open Go Go.RowKit Go.Proofs Th
theorem Us (s : ByteArray) (hs : s.size ≤ 50000) : ∃ (n : NJ) (a e : Nat), ACalls Tryz.prog GX 15 none [sI s] (.ret (.tup [.agg (Al n), iI a, iI e]) []) ∧ PS (toL s) n a e := by
 by_cases he : (Bp (toL s)).2.2 = 0
 case neg => exact ⟨EA, _, _, Se s hs he, .bad he (XP _) (fun n ⟨l, h, _⟩ => he (by rw [h])) fun l a' e' h => absurd (by rw [h]) he⟩
 obtain ⟨hg, hw⟩ := Fq (toL s) 0; rw [C7] at hw; obtain ⟨r, hr, _⟩ := aT (40 * s.size + 40) (B5 (toL s) 0) hg .whole 0 trivial (by
  show 40 * wtE (B5 (toL s) 0) 0 + 31 < _
  omega)
 have c := Ll s hs he _ r hr; have hev := PX hr; cases r with
 | bad a e =>
  have hb := Yy _ _ (OA _ _) .whole 0 trivial a e hr; refine ⟨EA, a, e, c, .bad hb.2 (by have h1 : a ≤ 0 + (toL s).length := hb.1; omega) (fun n hn => ?_) fun l a' e' _ h => ?_⟩
  ·obtain ⟨j, hj⟩ := S1 hn
   rw [hev] at hj; cases hj
  rw [hev] at h; cases h; rfl
 | ok n j =>
  have hf : Flt (toL s) n := Ur (Prod.ext rfl (Prod.ext (PA _ he) he)) hev; simp only [K0] at c; by_cases h2 : 48 < AB n
  ·rw [if_neg (fun h => by have := (LG 48 n).1 h; omega)] at c
   exact ⟨EA, 0, 31, c, .deep hf h2⟩
  rw [if_pos ((LG 48 n).2 (by omega))] at c; exact ⟨n, 0, 0, c, .ok hf (by omega)⟩
end Go.Proofs.YtakncilicoefdaaGreatDoor
