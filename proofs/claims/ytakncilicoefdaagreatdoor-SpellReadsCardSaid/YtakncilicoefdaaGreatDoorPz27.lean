/- Lemmas and contracts. Conditions: those that each lemma names. -/
import Derived.Test.YtakncilicoefdaaGreatDoorPz26
set_option maxRecDepth 100000
set_option maxHeartbeats 4000000
namespace Go.Proofs.YtakncilicoefdaaGreatDoor
open Go Go.RowKit Go.Proofs Th
attribute [local go_sem] JH IP
variable {G : World → CS → Prop}
def Vu (G : World → CS → Prop) : Prop := ∀ s : ByteArray, s.size ≤ 50000 → s.data.toList.head? ≠ some 45 → ACalls Tryz.prog G 150 none [sI s] (.ret (.tup [.agg [iI (BT s.data.toList).1.1, iI (BT s.data.toList).1.2], iI (BT s.data.toList).2]) [])
theorem W9 (l : List UInt8) : 0 ≤ (BT l).2 := Th.LR l
theorem EY {E : Env} {i : Nat} (h : i < E.l.length) : Aa E i ∈ E.l := by rw [Mf h]; exact List.getElem_mem h
theorem VT (gk : GK G) (f : Nat) (IH : IHP G f) (E : Env) (hE : EB E) (i : Nat) (s : ByteArray) (hi : i < E.l.length) (r : PR NJ) (h : Ak (AY f) E (.sign s) i = some r) : ACalls Tryz.prog G 152 (some (A5 E i)) [sI s] (CG E r) := by
 simp only [Ak] at h; have hr := rng ((i : Int) + 1) (by have := hE.len; omega); refine ACalls.enter Tryz.func152 rfl rfl gk Tryz.ntmps152 fun X F => ?_
 by_cases wa : s = ⟨#[46]⟩
 ·rw [if_pos wa] at h
  apply Ar F; go_simp; apply Ar F; go_simp; (repeat apply Aq); apply Ab; apply Ar F; go_simp; (repeat apply Aq); refine At (by go_simp) ?_; apply Ar F; go_simp; apply Ar F; go_simp; refine ⟨_, C3 gk E (i + 1), ?_⟩; go_simp; by_cases wb : (Aa E (i + 1)).kind = 5
  ·rw [if_pos wb] at h
   (repeat apply Aq); refine At (by go_simp) ?_; apply Ar F; go_simp; obtain ⟨x1, hx1, h⟩ := Ay h; have c1 := IH f (Nat.le_refl f) E hE _ _ x1 hx1; refine ⟨_, c1, ?_⟩; cases x1 with
   | bad a1 e1 => subst h; go_simp
   | ok n1 j1 =>
    obtain ⟨k1, s1, m1, q1, l1, b1⟩ := n1; dsimp only at h; clear c1 hx1; go_simp; refine ⟨_, Fx gk BR (.mk k1 s1 m1 q1 l1 b1), ?_⟩; go_simp; obtain rfl := Option.some.inj h; apply Au; go_simp
  rw [if_neg wb] at h; have vwb : ¬ ((Aa E (i + 1)).kind : Int) = 5 := by omega
  (repeat apply Aq); refine Af (by go_simp) ?_; apply As; go_simp; obtain rfl := Option.some.inj h; apply Ar F; go_simp; apply Au; go_simp
 rw [if_neg wa] at h; apply Ar F; go_simp; apply Ar F; go_simp; (repeat apply Aq); apply Ab; apply Ar F; go_simp; (repeat apply Aq); refine Af (by go_simp) ?_; by_cases wc : s = ⟨#[46, 46]⟩
 ·rw [if_pos wc] at h
  apply Ar F; go_simp; (repeat apply Aq); refine At (by go_simp) ?_; obtain rfl := Option.some.inj h; apply Ar F; go_simp; apply Ar F; go_simp; apply Au; go_simp
 rw [if_neg wc] at h; apply Ar F; go_simp; (repeat apply Aq); refine Af (by go_simp) ?_; by_cases wd : s = ⟨#[40]⟩
 ·rw [if_pos wd] at h
  apply Ar F; go_simp; (repeat apply Aq); refine At (by go_simp) ?_; apply Ar F; go_simp; apply Ar F; go_simp; obtain ⟨x2, hx2, h⟩ := Ay h; have c2 := IH f (Nat.le_refl f) E hE _ _ x2 hx2; refine ⟨_, c2, ?_⟩; cases x2 with
  | bad a2 e2 => subst h; go_simp
  | ok n1 j1 =>
   obtain ⟨k1, s1, m1, q1, l1, b1⟩ := n1; dsimp only at h; clear c2 hx2; go_simp; by_cases w3 : isT E (j1) 6 ⟨#[41]⟩
   ·rw [AR w3] at h
    apply Ar F; go_simp; refine ⟨_, An gk E hE (j1) 6 (by decide) _ w3, ?_⟩; go_simp; obtain rfl := Option.some.inj h; apply Ar F; go_simp; apply Au; go_simp
   rw [AU w3] at h; obtain rfl := Option.some.inj h; apply Ar F; go_simp; refine ⟨_, Az gk E hE (j1) 6 _ w3, ?_⟩; go_simp
 rw [if_neg wd] at h; apply Ar F; go_simp; (repeat apply Aq); refine Af (by go_simp) ?_; by_cases we : s = ⟨#[91]⟩
 ·rw [if_pos we] at h
  apply Ar F; go_simp; (repeat apply Aq); refine At (by go_simp) ?_; by_cases w4 : isT E (i + 1) 6 ⟨#[93]⟩
  ·rw [if_pos w4] at h
   apply Ar F; go_simp; apply Ar F; go_simp; refine ⟨_, AQ gk E hE.len (i + 1) 6 (by decide) _ w4, ?_⟩; go_simp; (repeat apply Aq); refine At (by go_simp) ?_; obtain rfl := Option.some.inj h; apply Ar F; go_simp; apply Au; go_simp; omega
  rw [if_neg w4] at h; apply Ar F; go_simp; apply Ar F; go_simp; refine ⟨_, AN gk E (i + 1) 6 _ w4, ?_⟩; go_simp; (repeat apply Aq); refine Af (by go_simp) ?_; apply As; go_simp; apply Ar F; go_simp; obtain ⟨x5, hx5, h⟩ := Ay h; have c5 := IH f (Nat.le_refl f) E hE _ _ x5 hx5; refine ⟨_, c5, ?_⟩; cases x5 with
  | bad a5 e5 => subst h; go_simp
  | ok n1 j1 =>
   obtain ⟨k1, s1, m1, q1, l1, b1⟩ := n1; dsimp only at h; clear c5 hx5; go_simp; by_cases w6 : isT E (j1) 6 ⟨#[93]⟩
   ·rw [AR w6] at h
    apply Ar F; go_simp; refine ⟨_, An gk E hE (j1) 6 (by decide) _ w6, ?_⟩; go_simp; obtain rfl := Option.some.inj h; apply Ar F; go_simp; apply Au; go_simp
   rw [AU w6] at h; obtain rfl := Option.some.inj h; apply Ar F; go_simp; refine ⟨_, Az gk E hE (j1) 6 _ w6, ?_⟩; go_simp
 rw [if_neg we] at h; apply Ar F; go_simp; (repeat apply Aq); refine Af (by go_simp) ?_; by_cases wf : s = ⟨#[123]⟩
 ·rw [if_pos wf] at h
  apply Ar F; go_simp; (repeat apply Aq); refine At (by go_simp) ?_; apply Ar F; go_simp; apply Ar F; go_simp; have c7 := IH f (Nat.le_refl f) E hE _ _ r h; refine ⟨_, c7, ?_⟩; cases r with
  | bad a7 e7 => go_simp
  | ok n j =>
   obtain ⟨k, s, m, q, l, b⟩ := n; clear c7; go_simp; apply Au; go_simp
 rw [if_neg wf] at h; apply Ar F; go_simp; (repeat apply Aq); refine Af (by go_simp) ?_; apply As; go_simp; obtain rfl := Option.some.inj h; apply Ar F; go_simp; refine ⟨_, Cq gk E hE i 60, ?_⟩; go_simp
theorem UX (gk : GK G) (f : Nat) (IH : IHP G f) (E : Env) (hE : EB E) (i : Nat) (hNum : Vu G) (r : PR NJ) (h : Ak (AY f) E (.first) i = some r) : ACalls Tryz.prog G 140 (some (A5 E i)) [] (CG E r) := by
 simp only [Ak] at h; refine ACalls.enter Tryz.func140 rfl rfl gk Tryz.ntmps140 fun X F => ?_
 apply Ar F; go_simp; apply Ar F; go_simp; refine ⟨_, C3 gk E i, ?_⟩; go_simp; by_cases wa : (Aa E i).kind = 3
 ·rw [if_pos wa] at h
  have hi : i < E.l.length := CJ (by rw [wa]; decide); have hr := rng ((i : Int) + 1) (by have := hE.len; omega); apply Ar F; go_simp; (repeat apply Aq); apply Ab; apply Ar F; go_simp; (repeat apply Aq); refine At (by go_simp) ?_; apply Ar F; go_simp; apply Ar F; go_simp; refine ⟨_, EU gk _, ?_⟩; go_simp; refine ⟨_, Fx gk BR (Bg (Aa E i).text), ?_⟩; go_simp; obtain rfl := Option.some.inj h; apply Au; go_simp
 rw [if_neg wa] at h; have va : ¬ ((Aa E i).kind : Int) = 3 := by omega
 apply Ar F; go_simp; (repeat apply Aq); apply Ab; apply Ar F; go_simp; (repeat apply Aq); refine Af (by go_simp) ?_; by_cases wb : (Aa E i).kind = 2
 ·rw [if_pos wb] at h
  have hi : i < E.l.length := CJ (by rw [wb]; decide); have hr := rng ((i : Int) + 1) (by have := hE.len; omega); apply Ar F; go_simp; (repeat apply Aq); refine At (by go_simp) ?_; obtain rfl := Option.some.inj h; apply Ar F; go_simp; apply Ar F; go_simp; apply Au; go_simp
 rw [if_neg wb] at h; have vb : ¬ ((Aa E i).kind : Int) = 2 := by omega
 apply Ar F; go_simp; (repeat apply Aq); refine Af (by go_simp) ?_; by_cases wc : (Aa E i).kind = 5
 ·rw [if_pos wc] at h
  have hi : i < E.l.length := CJ (by rw [wc]; decide); have hr := rng ((i : Int) + 1) (by have := hE.len; omega); apply Ar F; go_simp; (repeat apply Aq); refine At (by go_simp) ?_; apply Ar F; go_simp; have c1 := IH f (Nat.le_refl f) E hE _ _ r h; refine ⟨_, c1, ?_⟩; cases r with
  | bad a1 e1 => go_simp
  | ok n j =>
   obtain ⟨k, s, m, q, l, b⟩ := n; clear c1; go_simp; apply Au; go_simp
 rw [if_neg wc] at h; have vc : ¬ ((Aa E i).kind : Int) = 5 := by omega
 apply Ar F; go_simp; (repeat apply Aq); refine Af (by go_simp) ?_; by_cases wd : (Aa E i).kind = 4
 ·rw [if_pos wd] at h
  have hi : i < E.l.length := CJ (by rw [wd]; decide); have hr := rng ((i : Int) + 1) (by have := hE.len; omega); apply Ar F; go_simp; (repeat apply Aq); refine At (by go_simp) ?_; have cn := hNum (Aa E i).text (hE.tx _ (EY hi)) (hE.nu _ (EY hi) wd); have hp0 := W9 (Aa E i).text.data.toList; obtain ⟨⟨⟨pm, pe⟩, pc⟩, hpr⟩ : ∃ p, BT (Aa E i).text.data.toList = p := ⟨_, rfl⟩
  rw [hpr] at cn h hp0; dsimp only at cn h hp0; clear hpr; apply Ar F; go_simp; refine ⟨_, cn, ?_⟩; go_simp; by_cases we : pc = 10
  ·rw [if_pos we] at h
   subst we;obtain rfl := Option.some.inj h;(iterate 2 apply Ar F;go_simp;(repeat apply Aq);refine At (by go_simp) ?_);apply Ar F;go_simp;apply Ar F;go_simp;refine ⟨_, Cq gk E hE i 60, ?_⟩;go_simp
  rw [if_neg we] at h; by_cases wg : pc ≠ 0
  ·rw [if_pos wg] at h
   obtain rfl := Option.some.inj h; obtain ⟨pn, rfl⟩ : ∃ pn : Nat, pc = pn := ⟨pc.toNat, by omega⟩
   have w0 : ¬ pn = 0 := by omega
   have w9 : ¬ (pn : Int) = 10 := by omega
   clear we wg; apply Ar F; go_simp; (repeat apply Aq); refine At (by go_simp) ?_; apply Ar F; go_simp; (repeat apply Aq); refine Af (by go_simp) ?_; apply As; go_simp; apply Ar F; go_simp; refine ⟨_, Cq gk E hE i pn, ?_⟩; go_simp
  rw [if_neg wg] at h; obtain rfl : pc = 0 := Decidable.of_not_not wg; apply Ar F; go_simp; (repeat apply Aq); refine Af (by go_simp) ?_; apply As; go_simp; obtain rfl := Option.some.inj h; apply Ar F; go_simp; apply Ar F; go_simp; apply Au; go_simp
 rw [if_neg wd] at h; have vd : ¬ ((Aa E i).kind : Int) = 4 := by omega
 apply Ar F; go_simp; (repeat apply Aq); refine Af (by go_simp) ?_; by_cases wh : (Aa E i).kind = 1
 ·rw [if_pos wh] at h
  have hi : i < E.l.length := CJ (by rw [wh]; decide); have hr := rng ((i : Int) + 1) (by have := hE.len; omega); apply Ar F; go_simp; (repeat apply Aq); refine At (by go_simp) ?_; apply Ar F; go_simp; have c2 := IH f (Nat.le_refl f) E hE _ _ r h hi; refine ⟨_, c2, ?_⟩; cases r with
  | bad a2 e2 => go_simp
  | ok n j =>
   obtain ⟨k, s, m, q, l, b⟩ := n; clear c2; go_simp; apply Au; go_simp
 rw [if_neg wh] at h; have vh : ¬ ((Aa E i).kind : Int) = 1 := by omega
 apply Ar F; go_simp; (repeat apply Aq); refine Af (by go_simp) ?_; by_cases wi : (Aa E i).kind = 6
 ·rw [if_pos wi] at h
  have hi : i < E.l.length := CJ (by rw [wi]; decide); have hr := rng ((i : Int) + 1) (by have := hE.len; omega); apply Ar F; go_simp; (repeat apply Aq); refine At (by go_simp) ?_; apply Ar F; go_simp; have c3 := IH f (Nat.le_refl f) E hE _ _ r h hi; refine ⟨_, c3, ?_⟩; cases r with
  | bad a3 e3 => go_simp
  | ok n j =>
   obtain ⟨k, s, m, q, l, b⟩ := n; clear c3; go_simp; apply Au; go_simp
 rw [if_neg wi] at h; have vi : ¬ ((Aa E i).kind : Int) = 6 := by omega
 apply Ar F; go_simp; (repeat apply Aq); refine Af (by go_simp) ?_; apply As; go_simp; obtain rfl := Option.some.inj h; apply Ar F; go_simp; refine ⟨_, Cq gk E hE i 60, ?_⟩; go_simp
theorem Tn (gk : GK G) (f : Nat) (IH : IHP G f) (E : Env) (hE : EB E) (i : Nat) (r : PR NJ) (h : Ak (AY f) E (.entry) i = some r) : ACalls Tryz.prog G 175 (some (A5 E i)) [] (JH E r) := by
 simp only [Ak] at h; refine ACalls.enter Tryz.func175 rfl rfl gk Tryz.ntmps175 fun X F => ?_
 (iterate 4 apply Ar F;go_simp);refine ⟨_, C3 gk E i, ?_⟩;go_simp;(repeat apply Aq);apply Ab;by_cases wa : (Aa E i).kind = 2
 ·rw [if_pos wa] at h
  have hi : i < E.l.length := CJ (by rw [wa]; decide); have hr := rng ((i : Int) + 1) (by have := hE.len; omega); apply Ar F; go_simp; (repeat apply Aq); refine At (by go_simp) ?_; apply Ar F; go_simp; (repeat apply Aq); refine Ad F [0, 1, 3, 4, 5, 2, 6, 7] [(4, 2), (4, 6), (5, 2), (5, 6)] mixed (by kernel_rfl) ?_; go_simp; refine ⟨_, EU gk _, ?_⟩; go_simp; obtain rfl := Option.some.inj h; apply Au; go_simp
 rw [if_neg wa] at h; have va : ¬ ((Aa E i).kind : Int) = 2 := by omega
 apply Ar F; go_simp; (repeat apply Aq); refine Af (by go_simp) ?_; by_cases wb : (Aa E i).kind = 1
 ·rw [if_pos wb] at h
  have hi : i < E.l.length := CJ (by rw [wb]; decide); have hr := rng ((i : Int) + 1) (by have := hE.len; omega); apply Ar F; go_simp; (repeat apply Aq); refine At (by go_simp) ?_; apply Ar F; go_simp; apply Ar F; go_simp; refine ⟨_, EU gk _, ?_⟩; go_simp; by_cases ww : isT E (i + 1) 6 ⟨#[58]⟩
  ·rw [if_pos ww] at h
   apply Ar F; go_simp; refine ⟨_, (decide_eq_true ww ▸ CN gk E (i + 1) 6 _), ?_⟩; go_simp; (repeat apply Aq); refine Af (by go_simp) ?_; apply As; go_simp; rw [AR ww] at h; apply Ar F; go_simp; refine ⟨_, An gk E hE (i + 1) 6 (by decide) _ ww, ?_⟩; go_simp; (repeat apply Aq); refine Ad F [0, 1, 2, 3, 4] [(0, 2)] mixed (by kernel_rfl) ?_; go_simp; obtain ⟨x1, hx1, h⟩ := Ay h; have c1 := IH f (Nat.le_refl f) E hE _ _ x1 hx1; refine ⟨_, c1, ?_⟩; cases x1 with
   | bad a1 e1 => subst h; go_simp
   | ok n9 j9 =>
    obtain ⟨k9, s9, m9, q9, l9, b9⟩ := n9; dsimp only at h; clear c1 hx1; go_simp; obtain rfl := Option.some.inj h; apply Au; go_simp
  rw [if_neg ww] at h; apply Ar F; go_simp; refine ⟨_, (decide_eq_false ww ▸ CN gk E (i + 1) 6 _), ?_⟩; go_simp; (repeat apply Aq); refine At (by go_simp) ?_; (repeat apply Aq); refine Ad F [0, 1, 2, 3, 4, 5] [(0, 3)] mixed (by kernel_rfl) ?_; go_simp; refine ⟨_, Fx gk BR (Bg (Aa E i).text), ?_⟩; go_simp; obtain rfl := Option.some.inj h; apply Au; go_simp
 rw [if_neg wb] at h; have vb : ¬ ((Aa E i).kind : Int) = 1 := by omega
 apply Ar F; go_simp; (repeat apply Aq); refine Af (by go_simp) ?_; by_cases wc : (Aa E i).kind = 5
 ·rw [if_pos wc] at h
  apply Ar F; go_simp; (repeat apply Aq); refine At (by go_simp) ?_; apply Ar F; go_simp; obtain ⟨x2, hx2, h⟩ := Ay h; have c2 := IH f (Nat.le_refl f) E hE _ _ x2 hx2; refine ⟨_, c2, ?_⟩; cases x2 with
  | bad a2 e2 => subst h; go_simp
  | ok n1 j1 =>
   obtain ⟨k1, s1, m1, q1, l1, b1⟩ := n1; dsimp only at h; clear c2 hx2; go_simp; by_cases ww : isT E (j1) 6 ⟨#[58]⟩
   ·rw [if_pos ww] at h
    apply Ar F; go_simp; refine ⟨_, (decide_eq_true ww ▸ CN gk E (j1) 6 _), ?_⟩; go_simp; (repeat apply Aq); refine Af (by go_simp) ?_; apply As; go_simp; rw [AR ww] at h; apply Ar F; go_simp; refine ⟨_, An gk E hE (j1) 6 (by decide) _ ww, ?_⟩; go_simp; (repeat apply Aq); refine Ad F [0, 1, 2, 3, 4] [(0, 2)] mixed (by kernel_rfl) ?_; go_simp; obtain ⟨x3, hx3, h⟩ := Ay h; have c3 := IH f (Nat.le_refl f) E hE _ _ x3 hx3; refine ⟨_, c3, ?_⟩; cases x3 with
    | bad a3 e3 => subst h; go_simp
    | ok n9 j9 =>
     obtain ⟨k9, s9, m9, q9, l9, b9⟩ := n9; dsimp only at h; clear c3 hx3; go_simp; obtain rfl := Option.some.inj h; apply Au; go_simp
   rw [if_neg ww] at h; apply Ar F; go_simp; refine ⟨_, (decide_eq_false ww ▸ CN gk E (j1) 6 _), ?_⟩; go_simp; (repeat apply Aq); refine At (by go_simp) ?_; (repeat apply Aq); refine Ad F [0, 1, 2, 3, 4, 5] [(0, 3)] mixed (by kernel_rfl) ?_; go_simp; refine ⟨_, Fx gk BR (.mk k1 s1 m1 q1 l1 b1), ?_⟩; go_simp; obtain rfl := Option.some.inj h; apply Au; go_simp
 rw [if_neg wc] at h; have vc : ¬ ((Aa E i).kind : Int) = 5 := by omega
 apply Ar F; go_simp; (repeat apply Aq); refine Af (by go_simp) ?_; by_cases w4 : isT E (i) 6 ⟨#[40]⟩
 ·rw [if_pos w4] at h
  apply Ar F; go_simp; refine ⟨_, AQ gk E hE.len (i) 6 (by decide) _ w4, ?_⟩; go_simp; (repeat apply Aq); refine At (by go_simp) ?_; apply Ar F; go_simp; obtain ⟨x5, hx5, h⟩ := Ay h; have c5 := IH f (Nat.le_refl f) E hE _ _ x5 hx5; refine ⟨_, c5, ?_⟩; cases x5 with
  | bad a5 e5 => subst h; go_simp
  | ok n1 j1 =>
   obtain ⟨k1, s1, m1, q1, l1, b1⟩ := n1; dsimp only at h; clear c5 hx5; go_simp; by_cases w6 : isT E (j1) 6 ⟨#[41]⟩
   ·rw [AR w6] at h
    apply Ar F; go_simp; refine ⟨_, An gk E hE (j1) 6 (by decide) _ w6, ?_⟩; go_simp; apply Ar F; go_simp; apply Ar F; go_simp; (repeat apply Aq); refine Af (by go_simp) ?_; apply As; go_simp; by_cases w7 : isT E (j1 + 1) 6 ⟨#[58]⟩
    ·rw [AR w7] at h
     apply Ar F; go_simp; refine ⟨_, An gk E hE (j1 + 1) 6 (by decide) _ w7, ?_⟩; go_simp; (repeat apply Aq); refine Ad F [0, 1, 2, 3, 4] [(0, 2)] mixed (by kernel_rfl) ?_; go_simp; obtain ⟨x8, hx8, h⟩ := Ay h; have c8 := IH f (Nat.le_refl f) E hE _ _ x8 hx8; refine ⟨_, c8, ?_⟩; cases x8 with
     | bad a8 e8 => subst h; go_simp
     | ok n9 j9 =>
      obtain ⟨k9, s9, m9, q9, l9, b9⟩ := n9; dsimp only at h; clear c8 hx8; go_simp; obtain rfl := Option.some.inj h; apply Au; go_simp
    rw [AU w7] at h; obtain rfl := Option.some.inj h; apply Ar F; go_simp; refine ⟨_, Az gk E hE (j1 + 1) 6 _ w7, ?_⟩; go_simp
   rw [AU w6] at h; obtain rfl := Option.some.inj h; apply Ar F; go_simp; refine ⟨_, Az gk E hE (j1) 6 _ w6, ?_⟩; go_simp
 rw [if_neg w4] at h; apply Ar F; go_simp; refine ⟨_, AN gk E (i) 6 _ w4, ?_⟩; go_simp; (repeat apply Aq); refine Af (by go_simp) ?_; obtain rfl := Option.some.inj h; apply Ar F; go_simp; refine ⟨_, Cq gk E hE i 60, ?_⟩; go_simp
open Go Go.RowKit Go.Proofs Th
theorem OY (p : Nat) (s : ByteArray) (hs : s.size ≤ 1000000) (d : Nat) (k : Int)
  (hQ : ∀ (W : World) (b : Nat), b < s.size → Box W p [.string s, .int .i64 b] → GlobX W → Calls Tryz.prog 72 #[.pointer (some ⟨p, 0, none⟩), .int .i64 k] W fun r w' => E4 W p s (BK s.data.toList d b) r w')
  (a : Nat) (ha : a ≤ s.size) (w : World) (hB : Box w p [.string s, .int .i64 a]) (hG : GlobX w) :
  Calls Tryz.prog 47 #[.pointer (some ⟨p, 0, none⟩), .int .i64 k] w fun r w' => DM w p s (AF s.data.toList d a) r w' := by
 obtain ⟨i, hi⟩ : ∃ i, way s.data.toList (AL s.data.toList a) = i := ⟨_, rfl⟩
 match i, hi with
 | 0, hi => exact RL p s hs d k hQ a hi ha w hB hG
 | 1, hi => exact Ss p s hs d k hQ a hi ha w hB hG
 | 2, hi => exact St p s hs d k hQ a hi ha w hB hG
 | i + 3, hi => exact RU p s hs d k a (by omega) ha w hB hG
end Go.Proofs.YtakncilicoefdaaGreatDoor
