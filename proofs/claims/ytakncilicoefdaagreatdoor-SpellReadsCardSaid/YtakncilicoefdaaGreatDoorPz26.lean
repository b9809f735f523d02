/- Lemmas and contracts. Conditions: those that each lemma names. -/
import Derived.Test.YtakncilicoefdaaGreatDoorPz24
import Derived.Test.YtakncilicoefdaaGreatDoorPz25
set_option maxRecDepth 100000
set_option maxHeartbeats 4000000
namespace Go.Proofs.YtakncilicoefdaaGreatDoor
open Go Go.RowKit Go.Proofs Th
attribute [local go_sem] J7 LK LI Iu Ij Kk J1 J3 Mc LQ
variable {G : World → CS → Prop}
theorem Ay {α β : Type} {x : Option (PR α)} {k : α → Nat → Option (PR β)} {r : PR β} (h : A3 x k = some r) : ∃ y, x = some y ∧ (match y with | .bad a e => r = .bad a e | .ok n j => k n j = some r) := by
 cases x with
 | none => cases h
 | some y => cases y with
  | bad a e => exact ⟨_, rfl, (Option.some.inj h).symm⟩
  | ok n j => exact ⟨_, rfl, h⟩
theorem AR {β : Type} {E : Env} {i t : Nat} {x : ByteArray} {k : Nat → Option (PR β)} (h : isT E i t x) : A8 E i t x k = k (i + 1) := if_pos h
theorem AU {β : Type} {E : Env} {i t : Nat} {x : ByteArray} {k : Nat → Option (PR β)} (h : ¬ isT E i t x) : A8 E i t x k = some (.bad (Eb E i) 60) := if_neg h
theorem EZ {β : Type} {E : Env} {i k : Nat} {f : ByteArray → Nat → Option (PR β)} (h : ¬ DD E i k) : CX E i k f = f (Aa E i).text (i + 1) := if_neg h
theorem E5 {β : Type} {E : Env} {i k : Nat} {f : ByteArray → Nat → Option (PR β)} (h : DD E i k) : CX E i k f = some (.bad (Eb E i) 60) := if_pos h
def IP : NJ → IV
 | .mk _ _ _ _ [k, v] _ => .tup [.agg (Al k), .agg (Al v)]
 | _ => .tup []
def JH (E : Env) : PR NJ → ARes
 | .ok n j => .ret (IP n) (A5 E j)
 | .bad a e => .pan (C1 a e)
def Con (G : World → CS → Prop) (E : Env) (i : Nat) (r : PR NJ) : Job → Prop
 | .filter => ACalls Tryz.prog G 48 (some (A5 E i)) [] (CG E r)
 | .def_ => ACalls Tryz.prog G 79 (some (A5 E i)) [] (CG E r)
 | .binary least => ACalls Tryz.prog G 80 (some (A5 E i)) [iI least] (CG E r)
 | .minus => ACalls Tryz.prog G 110 (some (A5 E i)) [] (CG E r)
 | .term => ACalls Tryz.prog G 130 (some (A5 E i)) [] (CG E r)
 | .index x => ACalls Tryz.prog G 143 (some (A5 E i)) [.agg (Al x)] (CG E r)
 | .quoted => ACalls Tryz.prog G 144 (some (A5 E i)) [] (CG E r)
 | .whole => ACalls Tryz.prog G 25 (some (A5 E i)) [] (CG E r)
 | .first => ACalls Tryz.prog G 140 (some (A5 E i)) [] (CG E r)
 | .sign s => i < E.l.length → ACalls Tryz.prog G 152 (some (A5 E i)) [sI s] (CG E r)
 | .object => ACalls Tryz.prog G 164 (some (A5 E i)) [] (CG E r)
 | .entry => ACalls Tryz.prog G 175 (some (A5 E i)) [] (JH E r)
 | .word s => i < E.l.length → ACalls Tryz.prog G 151 (some (A5 E i)) [sI s] (CG E r)
 | .branch => ACalls Tryz.prog G 162 (some (A5 E i)) [] (CG E r)
 | .loop k => ACalls Tryz.prog G 163 (some (A5 E i)) [iI k] (CG E r)
 | _ => True
attribute [local go_sem] JH IP
def IHP (G : World → CS → Prop) (f : Nat) : Prop := ∀ g, g ≤ f → ∀ E, EB E → ∀ job i r, AY g E job i = some r → Con G E i r job
theorem SN (gk : GK G) (f : Nat) (IH : IHP G f) (E : Env) (hE : EB E) (i : Nat) (r : PR NJ) (h : Ak (AY f) E (.filter) i = some r) : ACalls Tryz.prog G 48 (some (A5 E i)) [] (CG E r) := by
 simp only [Ak] at h; refine ACalls.enter Tryz.func48 rfl rfl gk Tryz.ntmps48 fun X F => ?_
 by_cases w1 : isT E (i) 1 ⟨#[100, 101, 102]⟩
 ·rw [if_pos w1] at h
  apply Ar F; go_simp; apply Ar F; go_simp; refine ⟨_, AQ gk E hE.len (i) 1 (by decide) _ w1, ?_⟩; go_simp; (repeat apply Aq); refine At (by go_simp) ?_; apply Ar F; go_simp; have c2 := IH f (Nat.le_refl f) E hE _ _ r h; refine ⟨_, c2, ?_⟩; cases r with
  | bad a2 e2 => go_simp
  | ok n j =>
   obtain ⟨k, s, m, q, l, b⟩ := n; clear c2; go_simp; apply Au; go_simp
 rw [if_neg w1] at h; apply Ar F; go_simp; apply Ar F; go_simp; refine ⟨_, AN gk E (i) 1 _ w1, ?_⟩; go_simp; (repeat apply Aq); refine Af (by go_simp) ?_; apply As; go_simp; apply Ar F; go_simp; obtain ⟨x3, hx3, h⟩ := Ay h; have c3 := IH f (Nat.le_refl f) E hE _ _ x3 hx3; refine ⟨_, c3, ?_⟩; cases x3 with
 | bad a3 e3 => subst h; go_simp
 | ok n1 j1 =>
  obtain ⟨k1, s1, m1, q1, l1, b1⟩ := n1; dsimp only at h; clear c3 hx3; go_simp; by_cases w4 : isT E (j1) 6 ⟨#[124]⟩
  ·rw [if_pos w4] at h
   apply Ar F; go_simp; refine ⟨_, AQ gk E hE.len (j1) 6 (by decide) _ w4, ?_⟩; go_simp; (repeat apply Aq); refine At (by go_simp) ?_; (repeat apply Aq); refine Ad F [0, 1, 2, 3, 4, 5] [(0, 2)] mixed (by kernel_rfl) ?_; go_simp; obtain ⟨x5, hx5, h⟩ := Ay h; have c5 := IH f (Nat.le_refl f) E hE _ _ x5 hx5; refine ⟨_, c5, ?_⟩; cases x5 with
   | bad a5 e5 => subst h; go_simp
   | ok n2 j2 =>
    obtain ⟨k2, s2, m2, q2, l2, b2⟩ := n2; dsimp only at h; clear c5 hx5; go_simp; obtain rfl := Option.some.inj h; apply Au; go_simp
  rw [if_neg w4] at h; apply Ar F; go_simp; refine ⟨_, AN gk E (j1) 6 _ w4, ?_⟩; go_simp; obtain rfl := Option.some.inj h; (repeat apply Aq); refine Af (by go_simp) ?_; apply As; go_simp; apply Ar F; go_simp; apply Au; go_simp
theorem TB (gk : GK G) (f : Nat) (IH : IHP G f) (E : Env) (hE : EB E) (i : Nat) (r : PR NJ) (h : Ak (AY f) E (.minus) i = some r) : ACalls Tryz.prog G 110 (some (A5 E i)) [] (CG E r) := by
 simp only [Ak] at h; refine ACalls.enter Tryz.func110 rfl rfl gk Tryz.ntmps110 fun X F => ?_
 by_cases w1 : isT E (i) 6 ⟨#[45]⟩
 ·rw [if_pos w1] at h
  apply Ar F; go_simp; apply Ar F; go_simp; refine ⟨_, AQ gk E hE.len (i) 6 (by decide) _ w1, ?_⟩; go_simp; (repeat apply Aq); refine At (by go_simp) ?_; apply Ar F; go_simp; obtain ⟨x2, hx2, h⟩ := Ay h; have c2 := IH f (Nat.le_refl f) E hE _ _ x2 hx2; refine ⟨_, c2, ?_⟩; cases x2 with
  | bad a2 e2 => subst h; go_simp
  | ok n1 j1 =>
   obtain ⟨k1, s1, m1, q1, l1, b1⟩ := n1; dsimp only at h; clear c2 hx2; go_simp; obtain rfl := Option.some.inj h; apply Au; go_simp
 rw [if_neg w1] at h; apply Ar F; go_simp; apply Ar F; go_simp; refine ⟨_, AN gk E (i) 6 _ w1, ?_⟩; go_simp; (repeat apply Aq); refine Af (by go_simp) ?_; apply As; go_simp; apply Ar F; go_simp; obtain ⟨x3, hx3, h⟩ := Ay h; have c3 := IH f (Nat.le_refl f) E hE _ _ x3 hx3; refine ⟨_, c3, ?_⟩; cases x3 with
 | bad a3 e3 => subst h; go_simp
 | ok n1 j1 =>
  obtain ⟨k1, s1, m1, q1, l1, b1⟩ := n1; dsimp only at h; clear c3 hx3; go_simp; by_cases w4 : isT E (j1) 1 ⟨#[97, 115]⟩
  ·rw [if_pos w4] at h
   apply Ar F; go_simp; refine ⟨_, AQ gk E hE.len (j1) 1 (by decide) _ w4, ?_⟩; go_simp; (repeat apply Aq); refine Af (by go_simp) ?_; apply As; go_simp; by_cases w5 : DD E (j1 + 1) 2
   ·rw [E5 w5] at h
    obtain rfl := Option.some.inj h; apply Ar F; go_simp; refine ⟨_, Dq gk E hE (j1 + 1) 2 w5, ?_⟩; go_simp
   rw [EZ w5] at h; apply Ar F; go_simp; refine ⟨_, Dd gk E hE (j1 + 1) 2 (by decide) w5, ?_⟩; go_simp; by_cases w6 : isT E (j1 + 1 + 1) 6 ⟨#[124]⟩
   ·rw [AR w6] at h
    apply Ar F; go_simp; refine ⟨_, An gk E hE (j1 + 1 + 1) 6 (by decide) _ w6, ?_⟩; go_simp; (repeat apply Aq); refine Ad F [0, 1, 2, 3, 4, 5, 6] [(1, 3)] mixed (by kernel_rfl) ?_; go_simp; obtain ⟨x7, hx7, h⟩ := Ay h; have c7 := IH f (Nat.le_refl f) E hE _ _ x7 hx7; refine ⟨_, c7, ?_⟩; cases x7 with
    | bad a7 e7 => subst h; go_simp
    | ok n2 j2 =>
     obtain ⟨k2, s2, m2, q2, l2, b2⟩ := n2; dsimp only at h; clear c7 hx7; go_simp; obtain rfl := Option.some.inj h; apply Au; go_simp
   rw [AU w6] at h; obtain rfl := Option.some.inj h; apply Ar F; go_simp; refine ⟨_, Az gk E hE (j1 + 1 + 1) 6 _ w6, ?_⟩; go_simp
  rw [if_neg w4] at h; apply Ar F; go_simp; refine ⟨_, AN gk E (j1) 1 _ w4, ?_⟩; go_simp; obtain rfl := Option.some.inj h; (repeat apply Aq); refine At (by go_simp) ?_; apply Ar F; go_simp; apply Au; go_simp
theorem TX (gk : GK G) (f : Nat) (IH : IHP G f) (E : Env) (hE : EB E) (i : Nat) (r : PR NJ) (h : Ak (AY f) E (.whole) i = some r) : ACalls Tryz.prog G 25 (some (A5 E i)) [] (CG E r) := by
 simp only [Ak] at h; refine ACalls.enter Tryz.func25 rfl rfl gk Tryz.ntmps25 fun X F => ?_
 apply Ar F; go_simp; apply Ar F; go_simp; obtain ⟨x1, hx1, h⟩ := Ay h; have c1 := IH f (Nat.le_refl f) E hE _ _ x1 hx1; refine ⟨_, c1, ?_⟩; cases x1 with
 | bad a1 e1 => subst h; go_simp
 | ok n1 j1 =>
  obtain ⟨k1, s1, m1, q1, l1, b1⟩ := n1; dsimp only at h; clear c1 hx1; go_simp; by_cases w : j1 < E.l.length
  ·rw [if_pos w] at h
   obtain rfl := Option.some.inj h; (repeat apply Aq); refine Ad F [0, 1, 2, 3, 4, 5, 6, 7, 8, 9] [] mixed (by kernel_rfl) ?_; go_simp; (repeat apply Aq); refine At (by go_simp) ?_; apply Ar F; go_simp; refine ⟨_, Cq gk E hE j1 60, ?_⟩; go_simp
  rw [if_neg w] at h; obtain rfl := Option.some.inj h; (repeat apply Aq); refine Ad F [0, 1, 2, 3, 4, 5, 6, 7, 8, 9] [] mixed (by kernel_rfl) ?_; go_simp; (repeat apply Aq); refine Af (by go_simp) ?_; apply As; go_simp; apply Ar F; go_simp; apply Au; go_simp
theorem Sc (gk : GK G) (f : Nat) (IH : IHP G f) (E : Env) (hE : EB E) (i : Nat) (r : PR NJ) (h : Ak (AY f) E (.branch) i = some r) : ACalls Tryz.prog G 162 (some (A5 E i)) [] (CG E r) := by
 simp only [Ak] at h; refine ACalls.enter Tryz.func162 rfl rfl gk Tryz.ntmps162 fun X F => ?_
 apply Ar F; go_simp; apply Ar F; go_simp; obtain ⟨x1, hx1, h⟩ := Ay h; have c1 := IH f (Nat.le_refl f) E hE _ _ x1 hx1; refine ⟨_, c1, ?_⟩; cases x1 with
 | bad a1 e1 => subst h; go_simp
 | ok n1 j1 =>
  obtain ⟨k1, s1, m1, q1, l1, b1⟩ := n1; dsimp only at h; clear c1 hx1; go_simp; by_cases w2 : isT E (j1) 1 ⟨#[116, 104, 101, 110]⟩
  ·rw [AR w2] at h
   apply Ar F; go_simp; refine ⟨_, An gk E hE (j1) 1 (by decide) _ w2, ?_⟩; go_simp; (repeat apply Aq); refine Ad F [0, 1, 5, 2, 3, 4, 6] [(0, 5), (0, 2), (5, 2), (5, 3), (5, 4)] mixed (by kernel_rfl) ?_; go_simp; obtain ⟨x3, hx3, h⟩ := Ay h; have c3 := IH f (Nat.le_refl f) E hE _ _ x3 hx3; refine ⟨_, c3, ?_⟩; cases x3 with
   | bad a3 e3 => subst h; go_simp
   | ok n2 j2 =>
    obtain ⟨k2, s2, m2, q2, l2, b2⟩ := n2; dsimp only at h; clear c3 hx3; go_simp; (repeat apply Aq); apply Ab; by_cases w4 : isT E (j2) 1 ⟨#[101, 108, 105, 102]⟩
    ·rw [if_pos w4] at h
     apply Ar F; go_simp; refine ⟨_, AQ gk E hE.len (j2) 1 (by decide) _ w4, ?_⟩; go_simp; (repeat apply Aq); refine At (by go_simp) ?_; (repeat apply Aq); refine Ad F [0, 1, 2, 3, 4, 5, 6, 7] [(1, 3)] mixed (by kernel_rfl) ?_; go_simp; obtain ⟨x5, hx5, h⟩ := Ay h; have c5 := IH f (Nat.le_refl f) E hE _ _ x5 hx5; refine ⟨_, c5, ?_⟩; cases x5 with
     | bad a5 e5 => subst h; go_simp
     | ok n3 j3 =>
      obtain ⟨k3, s3, m3, q3, l3, b3⟩ := n3; dsimp only at h; clear c5 hx5; go_simp; obtain rfl := Option.some.inj h; apply Ar F; go_simp; apply Au; go_simp
    rw [if_neg w4] at h; apply Ar F; go_simp; refine ⟨_, AN gk E (j2) 1 _ w4, ?_⟩; go_simp; (repeat apply Aq); refine Af (by go_simp) ?_; by_cases w6 : isT E (j2) 1 ⟨#[101, 108, 115, 101]⟩
    ·rw [if_pos w6] at h
     apply Ar F; go_simp; refine ⟨_, AQ gk E hE.len (j2) 1 (by decide) _ w6, ?_⟩; go_simp; (repeat apply Aq); refine At (by go_simp) ?_; (repeat apply Aq); refine Ad F [0, 1, 2, 3, 4, 5, 6, 7] [(1, 3)] mixed (by kernel_rfl) ?_; go_simp; obtain ⟨x7, hx7, h⟩ := Ay h; have c7 := IH f (Nat.le_refl f) E hE _ _ x7 hx7; refine ⟨_, c7, ?_⟩; cases x7 with
     | bad a7 e7 => subst h; go_simp
     | ok n3 j3 =>
      obtain ⟨k3, s3, m3, q3, l3, b3⟩ := n3; dsimp only at h; clear c7 hx7; go_simp; by_cases w8 : isT E (j3) 1 ⟨#[101, 110, 100]⟩
      ·rw [AR w8] at h
       apply Ar F; go_simp; refine ⟨_, An gk E hE (j3) 1 (by decide) _ w8, ?_⟩; go_simp; obtain rfl := Option.some.inj h; apply Ar F; go_simp; apply Au; go_simp
      rw [AU w8] at h; obtain rfl := Option.some.inj h; apply Ar F; go_simp; refine ⟨_, Az gk E hE (j3) 1 _ w8, ?_⟩; go_simp
    rw [if_neg w6] at h; apply Ar F; go_simp; refine ⟨_, AN gk E (j2) 1 _ w6, ?_⟩; go_simp; (repeat apply Aq); refine Af (by go_simp) ?_; by_cases w9 : isT E (j2) 1 ⟨#[101, 110, 100]⟩
    ·rw [AR w9] at h
     apply Ar F; go_simp; apply Ar F; go_simp; refine ⟨_, An gk E hE (j2) 1 (by decide) _ w9, ?_⟩; go_simp; obtain rfl := Option.some.inj h; apply Ar F; go_simp; apply Au; go_simp
    rw [AU w9] at h; obtain rfl := Option.some.inj h; apply Ar F; go_simp; apply Ar F; go_simp; refine ⟨_, Az gk E hE (j2) 1 _ w9, ?_⟩; go_simp
  rw [AU w2] at h; obtain rfl := Option.some.inj h; apply Ar F; go_simp; refine ⟨_, Az gk E hE (j1) 1 _ w2, ?_⟩; go_simp
theorem Wf (gk : GK G) (f : Nat) (IH : IHP G f) (E : Env) (hE : EB E) (i : Nat) (kd : Int) (r : PR NJ) (h : Ak (AY f) E (.loop kd) i = some r) : ACalls Tryz.prog G 163 (some (A5 E i)) [iI kd] (CG E r) := by
 simp only [Ak] at h; refine ACalls.enter Tryz.func163 rfl rfl gk Tryz.ntmps163 fun X F => ?_
 apply Ar F; go_simp; apply Ar F; go_simp; obtain ⟨x1, hx1, h⟩ := Ay h; have c1 := IH f (Nat.le_refl f) E hE _ _ x1 hx1; refine ⟨_, c1, ?_⟩; cases x1 with
 | bad a1 e1 => subst h; go_simp
 | ok n1 j1 =>
  obtain ⟨k1, s1, m1, q1, l1, b1⟩ := n1; dsimp only at h; clear c1 hx1; go_simp; by_cases w2 : isT E (j1) 1 ⟨#[97, 115]⟩
  ·rw [AR w2] at h
   apply Ar F; go_simp; refine ⟨_, An gk E hE (j1) 1 (by decide) _ w2, ?_⟩; go_simp; by_cases w3 : DD E (j1 + 1) 2
   ·rw [E5 w3] at h
    obtain rfl := Option.some.inj h; apply Ar F; go_simp; refine ⟨_, Dq gk E hE (j1 + 1) 2 w3, ?_⟩; go_simp
   rw [EZ w3] at h; apply Ar F; go_simp; refine ⟨_, Dd gk E hE (j1 + 1) 2 (by decide) w3, ?_⟩; go_simp; by_cases w4 : isT E (j1 + 1 + 1) 6 ⟨#[40]⟩
   ·rw [AR w4] at h
    apply Ar F; go_simp; refine ⟨_, An gk E hE (j1 + 1 + 1) 6 (by decide) _ w4, ?_⟩; go_simp; (repeat apply Aq); refine Ad F [0, 1, 2, 3, 4, 5, 6, 7] [(1, 3)] mixed (by kernel_rfl) ?_; go_simp; obtain ⟨x5, hx5, h⟩ := Ay h; have c5 := IH f (Nat.le_refl f) E hE _ _ x5 hx5; refine ⟨_, c5, ?_⟩; cases x5 with
    | bad a5 e5 => subst h; go_simp
    | ok n2 j2 =>
     obtain ⟨k2, s2, m2, q2, l2, b2⟩ := n2; dsimp only at h; clear c5 hx5; go_simp; by_cases w6 : isT E (j2) 6 ⟨#[59]⟩
     ·rw [AR w6] at h
      apply Ar F; go_simp; refine ⟨_, An gk E hE (j2) 6 (by decide) _ w6, ?_⟩; go_simp; (repeat apply Aq); refine Ad F [0, 1, 2, 3, 4, 5, 6, 7] [(1, 3)] mixed (by kernel_rfl) ?_; go_simp; obtain ⟨x7, hx7, h⟩ := Ay h; have c7 := IH f (Nat.le_refl f) E hE _ _ x7 hx7; refine ⟨_, c7, ?_⟩; cases x7 with
      | bad a7 e7 => subst h; go_simp
      | ok n3 j3 =>
       obtain ⟨k3, s3, m3, q3, l3, b3⟩ := n3; dsimp only at h; clear c7 hx7; go_simp; by_cases wk : kd = 20
       ·rw [if_pos wk] at h
        apply Ar F; go_simp; (repeat apply Aq); refine At (by go_simp) ?_; by_cases w8 : isT E (j3) 6 ⟨#[59]⟩
        ·rw [if_pos w8] at h
         apply Ar F; go_simp; refine ⟨_, AQ gk E hE.len (j3) 6 (by decide) _ w8, ?_⟩; go_simp; (repeat apply Aq); refine At (by go_simp) ?_; (repeat apply Aq); refine Ad F [0, 1, 2, 3, 4, 5, 6, 7] [(1, 3)] mixed (by kernel_rfl) ?_; go_simp; obtain ⟨x9, hx9, h⟩ := Ay h; have c9 := IH f (Nat.le_refl f) E hE _ _ x9 hx9; refine ⟨_, c9, ?_⟩; cases x9 with
         | bad a9 e9 => subst h; go_simp
         | ok n4 j4 =>
          obtain ⟨k4, s4, m4, q4, l4, b4⟩ := n4; dsimp only at h; clear c9 hx9; go_simp; by_cases w10 : isT E (j4) 6 ⟨#[41]⟩
          ·rw [AR w10] at h
           apply Ar F; go_simp; refine ⟨_, An gk E hE (j4) 6 (by decide) _ w10, ?_⟩; go_simp; obtain rfl := Option.some.inj h; apply Ar F; go_simp; apply Au; go_simp
          rw [AU w10] at h; obtain rfl := Option.some.inj h; apply Ar F; go_simp; refine ⟨_, Az gk E hE (j4) 6 _ w10, ?_⟩; go_simp
        rw [if_neg w8] at h; apply Ar F; go_simp; refine ⟨_, AN gk E (j3) 6 _ w8, ?_⟩; go_simp; (repeat apply Aq); refine Af (by go_simp) ?_; by_cases w11 : isT E (j3) 6 ⟨#[41]⟩
        ·rw [AR w11] at h
         apply Ar F; go_simp; apply Ar F; go_simp; refine ⟨_, An gk E hE (j3) 6 (by decide) _ w11, ?_⟩; go_simp; obtain rfl := Option.some.inj h; apply Ar F; go_simp; apply Au; go_simp
        rw [AU w11] at h; obtain rfl := Option.some.inj h; apply Ar F; go_simp; apply Ar F; go_simp; refine ⟨_, Az gk E hE (j3) 6 _ w11, ?_⟩; go_simp
       rw [if_neg wk] at h; apply Ar F; go_simp; (repeat apply Aq); refine Af (by go_simp) ?_; apply As; go_simp; by_cases w12 : isT E (j3) 6 ⟨#[41]⟩
       ·rw [AR w12] at h
        apply Ar F; go_simp; refine ⟨_, An gk E hE (j3) 6 (by decide) _ w12, ?_⟩; go_simp; obtain rfl := Option.some.inj h; apply Ar F; go_simp; apply Au; go_simp
       rw [AU w12] at h; obtain rfl := Option.some.inj h; apply Ar F; go_simp; refine ⟨_, Az gk E hE (j3) 6 _ w12, ?_⟩; go_simp
     rw [AU w6] at h; obtain rfl := Option.some.inj h; apply Ar F; go_simp; refine ⟨_, Az gk E hE (j2) 6 _ w6, ?_⟩; go_simp
   rw [AU w4] at h; obtain rfl := Option.some.inj h; apply Ar F; go_simp; refine ⟨_, Az gk E hE (j1 + 1 + 1) 6 _ w4, ?_⟩; go_simp
  rw [AU w2] at h; obtain rfl := Option.some.inj h; apply Ar F; go_simp; refine ⟨_, Az gk E hE (j1) 1 _ w2, ?_⟩; go_simp
theorem UD (gk : GK G) (f : Nat) (IH : IHP G f) (E : Env) (hE : EB E) (i : Nat) (x : NJ) (r : PR NJ) (h : Ak (AY f) E (.index x) i = some r) : ACalls Tryz.prog G 143 (some (A5 E i)) [.agg (Al x)] (CG E r) := by
 simp only [Ak] at h; refine ACalls.enter Tryz.func143 rfl rfl gk Tryz.ntmps143 fun X F => ?_
 obtain ⟨k0, s0, m0, q0, l0, b0⟩ := x; by_cases w1 : isT E (i) 6 ⟨#[91]⟩
 ·rw [AR w1] at h
  apply Ar F; go_simp; apply Ar F; go_simp; refine ⟨_, An gk E hE (i) 6 (by decide) _ w1, ?_⟩; go_simp; by_cases w2 : isT E (i + 1) 6 ⟨#[93]⟩
  ·rw [if_pos w2] at h
   apply Ar F; go_simp; refine ⟨_, AQ gk E hE.len (i + 1) 6 (by decide) _ w2, ?_⟩; go_simp; (repeat apply Aq); refine At (by go_simp) ?_; obtain rfl := Option.some.inj h; apply Ar F; go_simp; apply Au; go_simp
  rw [if_neg w2] at h; apply Ar F; go_simp; refine ⟨_, AN gk E (i + 1) 6 _ w2, ?_⟩; go_simp; (repeat apply Aq); refine Af (by go_simp) ?_; apply As; go_simp; by_cases w3 : isT E (i + 1) 6 ⟨#[58]⟩
  ·rw [if_pos w3] at h
   apply Ar F; go_simp; apply Ar F; go_simp; refine ⟨_, (decide_eq_true w3 ▸ CN gk E (i + 1) 6 _), ?_⟩; go_simp; (repeat apply Aq); refine Af (by go_simp) ?_; apply As; go_simp; apply Ar F; go_simp; refine ⟨_, An gk E hE (i + 1) 6 (by decide) _ w3, ?_⟩; go_simp; apply Ar F; go_simp; (repeat apply Aq); refine At (by go_simp) ?_; (repeat apply Aq); refine Ad F [0, 1, 2, 6, 7, 8, 3, 4, 5, 9, 10, 11, 12, 13] [(1, 3), (7, 3), (7, 5), (8, 3), (8, 5)] mixed (by kernel_rfl) ?_; go_simp; obtain ⟨x3, hx3, h⟩ := Ay h; have c3 := IH f (Nat.le_refl f) E hE _ _ x3 hx3; refine ⟨_, c3, ?_⟩; cases x3 with
   | bad a3 e3 => subst h; go_simp
   | ok n2 j2 =>
    obtain ⟨k2, s2, m2, q2, l2, b2⟩ := n2; dsimp only at h; clear c3 hx3; go_simp; by_cases w4 : isT E (j2) 6 ⟨#[93]⟩
    ·rw [AR w4] at h
     apply Ar F; go_simp; refine ⟨_, An gk E hE (j2) 6 (by decide) _ w4, ?_⟩; go_simp; obtain rfl := Option.some.inj h; apply Ar F; go_simp; apply Au; go_simp
    rw [AU w4] at h; obtain rfl := Option.some.inj h; apply Ar F; go_simp; refine ⟨_, Az gk E hE (j2) 6 _ w4, ?_⟩; go_simp
  rw [if_neg w3] at h; apply Ar F; go_simp; apply Ar F; go_simp; refine ⟨_, (decide_eq_false w3 ▸ CN gk E (i + 1) 6 _), ?_⟩; go_simp; (repeat apply Aq); refine At (by go_simp) ?_; apply Ar F; go_simp; obtain ⟨x5, hx5, h⟩ := Ay h; have c5 := IH f (Nat.le_refl f) E hE _ _ x5 hx5; refine ⟨_, c5, ?_⟩; cases x5 with
  | bad a5 e5 => subst h; go_simp
  | ok n1 j1 =>
   obtain ⟨k1, s1, m1, q1, l1, b1⟩ := n1; dsimp only at h; clear c5 hx5; go_simp; by_cases w6 : isT E (j1) 6 ⟨#[93]⟩
   ·rw [if_pos w6] at h
    apply Ar F; go_simp; refine ⟨_, AQ gk E hE.len (j1) 6 (by decide) _ w6, ?_⟩; go_simp; (repeat apply Aq); refine At (by go_simp) ?_; apply Ar F; go_simp; refine ⟨_, Fx gk (.mk k0 s0 m0 q0 l0 b0) (.mk k1 s1 m1 q1 l1 b1), ?_⟩; go_simp; obtain rfl := Option.some.inj h; apply Au; go_simp
   rw [if_neg w6] at h; apply Ar F; go_simp; refine ⟨_, AN gk E (j1) 6 _ w6, ?_⟩; go_simp; (repeat apply Aq); refine Af (by go_simp) ?_; apply As; go_simp; by_cases w7 : isT E (j1) 6 ⟨#[58]⟩
   ·rw [AR w7] at h
    (repeat apply Aq); refine Ad F [0, 1, 2, 3, 4, 5, 6, 7, 8, 9, 10, 11, 12] [(4, 6), (4, 7)] mixed (by kernel_rfl) ?_; go_simp; apply Ar F; go_simp; refine ⟨_, An gk E hE (j1) 6 (by decide) _ w7, ?_⟩; go_simp; by_cases w6 : isT E (j1 + 1) 6 ⟨#[93]⟩
    ·rw [if_pos w6] at h
     apply Ar F; go_simp; refine ⟨_, (decide_eq_true w6 ▸ CN gk E (j1 + 1) 6 _), ?_⟩; go_simp; (repeat apply Aq); refine Af (by go_simp) ?_; apply As; go_simp; apply Ar F; go_simp; refine ⟨_, An gk E hE (j1 + 1) 6 (by decide) _ w6, ?_⟩; go_simp; obtain rfl := Option.some.inj h; apply Ar F; go_simp; apply Au; go_simp
    rw [if_neg w6] at h; apply Ar F; go_simp; refine ⟨_, (decide_eq_false w6 ▸ CN gk E (j1 + 1) 6 _), ?_⟩; go_simp; (repeat apply Aq); refine At (by go_simp) ?_; (repeat apply Aq); refine Ad F [0, 1, 2, 6, 7, 8, 3, 4, 5, 9, 10, 11, 12, 13] [(1, 3), (7, 3), (7, 5), (8, 3), (8, 5)] mixed (by kernel_rfl) ?_; go_simp; obtain ⟨x8, hx8, h⟩ := Ay h; have c8 := IH f (Nat.le_refl f) E hE _ _ x8 hx8; refine ⟨_, c8, ?_⟩; cases x8 with
    | bad a8 e8 => subst h; go_simp
    | ok n2 j2 =>
     obtain ⟨k2, s2, m2, q2, l2, b2⟩ := n2; dsimp only at h; clear c8 hx8; go_simp; by_cases w9 : isT E (j2) 6 ⟨#[93]⟩
     ·rw [AR w9] at h
      apply Ar F; go_simp; refine ⟨_, An gk E hE (j2) 6 (by decide) _ w9, ?_⟩; go_simp; obtain rfl := Option.some.inj h; apply Ar F; go_simp; apply Au; go_simp
     rw [AU w9] at h; obtain rfl := Option.some.inj h; apply Ar F; go_simp; refine ⟨_, Az gk E hE (j2) 6 _ w9, ?_⟩; go_simp
   rw [AU w7] at h; obtain rfl := Option.some.inj h; (repeat apply Aq); refine Ad F [0, 1, 2, 3, 4, 5, 6, 7, 8, 9, 10, 11, 12] [(4, 6), (4, 7)] mixed (by kernel_rfl) ?_; go_simp; apply Ar F; go_simp; refine ⟨_, Az gk E hE (j1) 6 _ w7, ?_⟩; go_simp
 rw [AU w1] at h; obtain rfl := Option.some.inj h; apply Ar F; go_simp; apply Ar F; go_simp; refine ⟨_, Az gk E hE (i) 6 _ w1, ?_⟩; go_simp
open Go Go.RowKit Go.Proofs Th
theorem Yo {W : World} {S : CS} {t : Tf} {y z : Value} {u : Value} (h : Rep W S (.tup [.agg (DO t), .v y, .v z]) u) : u = .tuple #[GJ t, y, z] := by
 cases h with
 | @tup _ us hl hR =>
  rcases us with _ | ⟨u0, _ | ⟨u1, _ | ⟨u2, _ | ⟨u3, us⟩⟩⟩⟩
  ·cases hl
  ·cases hl
  ·cases hl
  ·have h0 := hR 0 _ u0 rfl rfl
   obtain rfl := Dl (hR 1 _ u1 rfl rfl); obtain rfl := Dl (hR 2 _ u2 rfl rfl); cases h0 with
   | @agg _ vs hl2 hR2 =>
    obtain rfl := Ih [.int .i64 (t.kind : Int), .string t.text, .int .i64 (t.at_ : Int)] vs ⟨hl2, hR2⟩; rfl
  cases hl
theorem H3 (p : Nat) (s : ByteArray) (k : Int) (a : Nat) (w : World) (hB : Box w p [.string s, .int .i64 a]) (hG : GlobX w) (t : Tf × Nat × Nat) (j : Nat) (hj : j ≤ s.size) (ht : t.2.2 = 0 → j = t.2.1)
  (hA : ACalls Tryz.prog GN 47 (some [sI s, iI a]) [iI k] (.ret (.tup [.agg (DO t.1), iI (if t.2.2 = 0 then 0 else (t.2.1 : Int)), iI t.2.2]) [sI s, iI j])) :
  Calls Tryz.prog 47 #[.pointer (some ⟨p, 0, none⟩), .int .i64 k] w fun r w' => DM w p s t r w' := by
 have hp : (4 : Nat) ≠ p := by
  rintro rfl; obtain ⟨m, hm⟩ := hG; have h0 := hB.cell 0 _ rfl; rw [hm] at h0; cases h0
 refine (PC (cs := [.string s, .int .i64 a]) (cs' := [.string s, .int .i64 j]) (us := [.int .i64 k]) hA (by simp [Value.oneCell']) w p hB hG hp).mono fun e w' ⟨⟨u, S, he, hr⟩, hB', hU⟩ => ?_
 exact ⟨by rw [he, Yo hr], j, ⟨hB', hU⟩, hj, ht⟩
theorem AtN.text {s : ByteArray} {b : Nat} {c : UInt8} {r : List UInt8} {x x1 : ByteArray} (h : AtN s b c r x x1) (i n : Nat) : x.extract i n = ⟨(((c :: r).take n).drop i).toArray⟩ := by
 rw [GS, h.ll, List.drop_take]
theorem RU (p : Nat) (s : ByteArray) (hs : s.size ≤ 1000000) (d : Nat) (k : Int) (a : Nat) (hw : 3 ≤ way s.data.toList (AL s.data.toList a)) (ha : a ≤ s.size) (w : World) (hB : Box w p [.string s, .int .i64 a]) (hG : GlobX w) :
  Calls Tryz.prog 47 #[.pointer (some ⟨p, 0, none⟩), .int .i64 k] w fun r w' => DM w p s (AF s.data.toList d a) r w' := by
 obtain ⟨b, hb⟩ : ∃ b, AL s.data.toList a = b := ⟨_, rfl⟩
 rw [show AF s.data.toList d a = BG s.data.toList (BK s.data.toList d) b by rw [B9, hb]]; rw [hb] at hw; have hty := Kh (s.data.toList.drop b); have hlet : Bl 34 = false := by decide
 cases hd : s.data.toList.drop b with
 | nil => unfold way at hw; rw [hd] at hw; exact absurd hw (by decide)
 | cons c r =>
  obtain ⟨x, x1, hA⟩ := AtN.of hd; have hle := hA.le; rw [hd] at hty; rw [List.length_cons] at hty; rw [Iq hd] at hw; unfold IJ at hw; unfold BG; rw [hd]; dsimp only; by_cases h34 : c = 34
  ·rw [if_pos h34] at hw; exact absurd hw (by decide)
  rw [if_neg h34] at hw ⊢; by_cases hl : Bl c = true
  ·rw [if_pos hl] at hw; exact absurd hw (by decide)
  rw [if_neg hl] at hw; have hl0 : Bl c = false := by simpa using hl
  have hwd : ∀ n : Nat, ((b + n : Nat) : Int) = (b : Int) + (n : Int) := fun n => by omega
  have hw1 : ∀ n : Nat, ((b + (1 + n) : Nat) : Int) = (b : Int) + (1 + (n : Int)) := fun n => by omega
  by_cases h36 : c = 36 ∧ 0 < AM r
  ·have ht : Bj (c :: r) = (2, 1, 1 + AM r) := by simp only [Bj]; rw [if_neg hl, if_pos h36]
   rw [ht] at hty ⊢; refine H3 p s k a w hB hG _ (b + (1 + AM r)) (by have := hty.1; dsimp only at this; omega) (fun _ => rfl) ?_; have := Tk k s hs a b ha hb c r x x1 hA h36.1 hl0 h36.2; rw [hA.text] at this; rw [hw1]; exact this
  rw [if_neg h36] at hw; by_cases h46 : c = 46 ∧ 0 < AM r
  ·have ht : Bj (c :: r) = (3, 1, 1 + AM r) := by simp only [Bj]; rw [if_neg hl, if_neg h36, if_pos h46]
   rw [ht] at hty ⊢; refine H3 p s k a w hB hG _ (b + (1 + AM r)) (by have := hty.1; dsimp only at this; omega) (fun _ => rfl) ?_; have := Zj k s hs a b ha hb c r x x1 hA h46.1 hl0 h46.2; rw [hA.text] at this; rw [hw1]; exact this
  by_cases hg : Bs c = true
  ·have h36' : ¬ c = 36 := by rintro rfl; exact absurd hg (by decide)
   have h46' : ¬ c = 46 := by rintro rfl; exact absurd hg (by decide)
   have ht : Bj (c :: r) = (4, 0, Dc (c :: r)) := by simp only [Bj]; rw [if_neg hl, if_neg h36, if_neg h46, if_pos hg]
   rw [ht] at hty ⊢; have hn := hty.1; dsimp only at hn; refine H3 p s k a w hB hG _ (b + Dc (c :: r)) (by omega) (fun _ => rfl) ?_; have := WC k s hs a b ha hb c r x x1 hA h34 h36' h46' hl0 hg _ rfl hn; rw [hA.text] at this; rw [hwd]; exact this
  have hg0 : Bs c = false := by simpa using hg
  have hat : s.data.toList[b]? = some c := by
   have := congrArg List.head? hd; rw [List.head?_drop] at this; exact this
  have h32 : c ≠ 32 := fun h => by
   have := (J4 hb hat).1; rw [h] at this; exact absurd this (by decide)
  have hxz : 0 < x.size := by have := hA.sz; omega
  have hx0 : x[0] = c := by
   have h1 : x.data.toList[0]? = some c := by rw [hA.ll]; rfl
   have h2 : x.data.toList[0]? = some x[0] := by rw [List.getElem?_eq_getElem (by rw [Ai]; exact hxz)]; rfl
   exact (Option.some.inj (h1.symm.trans h2)).symm
  have csg := ZA x hxz (by rw [hx0]; exact h32) _ hA.ll; by_cases hn : Be (c :: r) = 0
  ·have ht : Bj (c :: r) = (0, 0, 0) := by simp only [Bj]; rw [if_neg hl, if_neg h36, if_neg h46, if_neg hg, if_pos hn]
   rw [ht, if_pos (show ((0, 0, 0) : Nat × Nat × Nat).1 = 0 from rfl)]; exact H3 p s k a w hB hG _ b (by omega) (fun h => (by cases h)) (YC k s hs a b ha hb c r x x1 hA h34 h36 h46 hl0 hg0 _ csg hn)
  have ht : Bj (c :: r) = (6, 0, Be (c :: r)) := by simp only [Bj]; rw [if_neg hl, if_neg h36, if_neg h46, if_neg hg, if_neg hn]
  rw [ht] at hty ⊢; have hnl := hty.1; dsimp only at hnl; refine H3 p s k a w hB hG _ (b + Be (c :: r)) (by omega) (fun _ => rfl) ?_; have := YQ k s hs a b ha hb c r x x1 hA h34 h36 h46 hl0 hg0 _ csg (by omega) hnl; rw [hA.text] at this; rw [hwd]; exact this
open Go Go.RowKit Go.Proofs Th
theorem LB {P : List UInt8} {n : NJ} (hP : P.length ≤ 500) (h : Flt P n) : okJ n = true ∧ cz n ≤ 128000 := by
 obtain ⟨l, _, h2⟩ := h; obtain ⟨f, hf⟩ := Mj h2; have h3 := Vx f (B5 P 0) (NL P 0) .filter 0 trivial n _ hf; have h4 := (Fq P 0).2; exact ⟨h3.1, by have := h3.2; omega⟩
theorem Rj : ∀ (l : List NJ), ∀ x ∈ l, okL l = true → cz x ≤ czP l ∨ ∃ k, k ∈ l ∧ (Av k = 3 ∨ Av k = 4) ∧ x = Ax 5 ⟨#[]⟩ BR k ∧ cz k ≤ czP l
 | [], x, h, _ => by cases h
 | [y], x, h, _ => by rw [List.mem_singleton.1 h, czP]; exact .inl (by omega)
 | k :: v :: r, x, h, hk => by
  rw [okL, okL, Bool.and_eq_true, Bool.and_eq_true] at hk; rw [czP]; rcases List.mem_cons.1 h with rfl | h
  ·left; split <;> omega
  rcases List.mem_cons.1 h with rfl | h
  ·by_cases hs : G8 k x = true
   ·right
    rw [if_pos hs]; have hs2 := hs; unfold G8 at hs2; rw [Bool.and_eq_true, decide_eq_true_eq] at hs2; exact ⟨k, by simp, hs2.1, J2 _ _ hs2.2, by omega⟩
   left; rw [if_neg hs]; omega
  rcases Rj r x h hk.2.2 with h1 | ⟨q, h1, h2, h3, h4⟩
  ·left; omega
  right; exact ⟨q, by simp [h1], h2, h3, by omega⟩
theorem ZL {k : Int} {s : ByteArray} {m e : Int} {l : List NJ} {a : List ByteArray} (hk : okJ (.mk k s m e l a) = true) : s.size ≤ Lj k s := by
 unfold Lj; split
 ·rename_i h3
  obtain ⟨s2, e2, hv⟩ := GQ _ hk h3; unfold Bg at e2; injection e2 with _ e2; rw [e2]; have := Ws _ (tl s2) (Nat.le_refl _) hv; rw [GF] at this; exact this
 exact Nat.le_refl _
theorem QV : ∀ (l : List NJ), ∀ x ∈ l, cz x ≤ czL l
 | y :: r, x, h => by
  rw [czL]; rcases List.mem_cons.1 h with rfl | h
  ·omega
  have := QV r x h; omega
theorem Og : ∀ (d : Nat) (n : NJ), AB n ≤ d → d ≤ 48 → okJ n = true → cz n ≤ 150000 → smB n = true
 | 0, .mk k s m e l a, hd, _, _, _ => by rw [AB] at hd; omega
 | d + 1, .mk k s m e l a, hd, h8, hk, h => by
  have ho := ZL hk; rw [AB] at hd; have hkl : okL l = true := by rw [okJ, Bool.and_eq_true] at hk; exact hk.2
  have hkk := hkl; rw [DW, List.all_eq_true] at hkk; have hx : ∀ x ∈ l, AB x ≤ d := fun x hx => Cz.1 (show Bt l ≤ d by omega) x hx
  have hF : Fd 48 = 65536 := rfl; have h46 := Hy (show 4 ≤ 6 by decide) (spL l); have h6 := Pb (spL l); rw [cz] at h; by_cases k16 : k = 16
  ·rw [if_pos k16] at h
   have h2 : l.length % 2 = 0 := by
    subst k16; rw [okJ, Bool.and_eq_true] at hk; have := hk.1; unfold ES at this; rw [Bool.and_eq_true] at this; simpa [Ac] using this.2
   have P := Ik (D := 48) (Nat.zero_le _) l h2 (fun x hxx => ⟨hkk x hxx, by have := hx x hxx; omega⟩) fun x ko _ => Gz (AB x) x (Nat.le_refl _) ko
   rw [hF] at P; refine FY.2 ⟨by omega, by omega, by omega, fun x hxx => ?_⟩; rcases Rj l x hxx hkl with h1 | ⟨q, h1, h34, h3, h4⟩
   ·exact Og d x (hx x hxx) (by omega) (hkk x hxx) (by omega)
   have hq := Og d q (hx q h1) (by omega) (hkk q h1) (by omega); have hg := Gz d q (hx q h1) (hkk q h1); have hg2 := Nat.mul_le_mul (FD (show AB q ≤ 48 by have := hx q h1; omega)) (show cz q ≤ 150000 by omega); rw [hF] at hg2; rw [h3]; refine FY.2 ⟨by decide, by rw [AC]; omega, ?_, fun y hy => ?_⟩
   ·rw [spL, spL, spL, Ao, Ao, AC, show (spJ BR).size = 1 from rfl]; omega
   rcases List.mem_cons.1 hy with rfl | hy
   ·rfl
   rw [List.mem_singleton.1 hy]; exact hq
  rw [if_neg k16] at h; have G := Jl (F := 65536) l fun x hxx => by
   have hg := Gz d x (hx x hxx) (hkk x hxx); have hg2 := Nat.mul_le_mul_right (cz x) (FD (show AB x ≤ 48 by have := hx x hxx; omega)); rw [hF] at hg2; omega
  refine FY.2 ⟨by omega, by omega, by omega, fun x hxx => ?_⟩; have := QV l x hxx; exact Og d x (hx x hxx) (by omega) (hkk x hxx) (by omega)
end Go.Proofs.YtakncilicoefdaaGreatDoor
