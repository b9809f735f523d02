/- Lemmas and contracts. Conditions: those that each lemma names. -/
import Derived.Test.YtakncilicoefdaaGreatDoorPz29
set_option maxRecDepth 100000
set_option maxHeartbeats 4000000
namespace Go.Proofs.YtakncilicoefdaaGreatDoor
open Go Go.RowKit Go.Proofs Th
set_option maxRecDepth 8000
attribute [local go_sem] JH IP Et Ds BI Jo JJ IW
variable {G : World → CS → Prop}
inductive W2 where
 | a
 | b
def SP (d e : Nat) : W2 → List ByteArray → FV
 | _, [] => .im (.sl [] true)
 | .a, x :: r => .own d (x :: r).length
 | .b, x :: r => .own e (x :: r).length
def SH : W2 → List ByteArray → AObj
 | .a, x :: r => .row 9 1 ((x :: r).map fun x => [sI x])
 | _, _ => .none
def Sh : W2 → List ByteArray → AObj
 | .b, x :: r => .row 9 1 ((x :: r).map fun x => [sI x])
 | _, _ => .none
theorem Wv (w : W2) : SH w [] = .none := by cases w <;> rfl
theorem V1 (w : W2) : Sh w [] = .none := by cases w <;> rfl
theorem ZX (x : ByteArray) (r : List ByteArray) : SH .a (x :: r) = .row 9 1 ((x :: r).map fun x => [sI x]) := rfl
theorem Zo (l : List ByteArray) : SH .b l = .none := rfl
theorem Y6 (l : List ByteArray) : Sh .a l = .none := rfl
theorem Y4 (x : ByteArray) (r : List ByteArray) : Sh .b (x :: r) = .row 9 1 ((x :: r).map fun x => [sI x]) := rfl
theorem Wc (d e : Nat) (w : W2) : SP d e w [] = .im (.sl [] true) := by cases w <;> rfl
theorem Zp (d e : Nat) (x : ByteArray) (r : List ByteArray) : SP d e .a (x :: r) = .own d (x :: r).length := rfl
theorem Zw (d e : Nat) (x : ByteArray) (r : List ByteArray) : SP d e .b (x :: r) = .own e (x :: r).length := rfl
attribute [local go_sem] Wv V1 ZX Zo Y6 Y4 Wc Zp Zw List.map_append List.map_cons List.map_nil List.length_map
theorem WQ (gk : GK G) (f : Nat) (IH : IHP G f) (E : Env) (hE : EB E) (i : Nat) (s : ByteArray) (hi : i < E.l.length) (r : PR NJ) (h : Ak (AY f) E (.word s) i = some r) : ACalls Tryz.prog G 151 (some (A5 E i)) [sI s] (CG E r) := by
 simp only [Ak] at h; have hr := rng ((i : Int) + 1) (by have := hE.len; omega); refine ACalls.enter Tryz.func151 rfl rfl gk Tryz.ntmps151 fun X F => ?_
 by_cases wa : s = ⟨#[105, 102]⟩
 ·rw [if_pos wa] at h
  apply Ar F; go_simp; apply Ar F; go_simp; (repeat apply Aq); apply Ab; apply Ar F; go_simp; (repeat apply Aq); refine At (by go_simp) ?_; apply Ar F; go_simp; apply Ar F; go_simp; have c1 := IH f (Nat.le_refl f) E hE _ _ r h; refine ⟨_, c1, ?_⟩; cases r with
  | bad a1 e1 => go_simp
  | ok n j =>
   obtain ⟨k, s, m, q, l, b⟩ := n; clear c1; go_simp; apply Au; go_simp
 rw [if_neg wa] at h; apply Ar F; go_simp; apply Ar F; go_simp; (repeat apply Aq); apply Ab; apply Ar F; go_simp; (repeat apply Aq); refine Af (by go_simp) ?_; by_cases wb : s = ⟨#[116, 114, 121]⟩
 ·rw [if_pos wb] at h
  apply Ar F; go_simp; (repeat apply Aq); refine At (by go_simp) ?_; apply Ar F; go_simp; apply Ar F; go_simp; obtain ⟨x2, hx2, h⟩ := Ay h; have c2 := IH f (Nat.le_refl f) E hE _ _ x2 hx2; refine ⟨_, c2, ?_⟩; cases x2 with
  | bad a2 e2 => subst h; go_simp
  | ok n1 j1 =>
   obtain ⟨k1, s1, m1, q1, l1, b1⟩ := n1; dsimp only at h; clear c2 hx2; go_simp; by_cases w3 : isT E (j1) 1 ⟨#[99, 97, 116, 99, 104]⟩
   ·rw [if_pos w3] at h
    apply Ar F; go_simp; refine ⟨_, AQ gk E hE.len (j1) 1 (by decide) _ w3, ?_⟩; go_simp; (repeat apply Aq); refine At (by go_simp) ?_; (repeat apply Aq); refine Ad F [0, 1, 2, 3, 4, 5, 6, 7] [(1, 3)] mixed (by kernel_rfl) ?_; go_simp; obtain ⟨x4, hx4, h⟩ := Ay h; have c4 := IH f (Nat.le_refl f) E hE _ _ x4 hx4; refine ⟨_, c4, ?_⟩; cases x4 with
    | bad a4 e4 => subst h; go_simp
    | ok n2 j2 =>
     obtain ⟨k2, s2, m2, q2, l2, b2⟩ := n2; dsimp only at h; clear c4 hx4; go_simp; obtain rfl := Option.some.inj h; apply Ar F; go_simp; apply Au; go_simp
   rw [if_neg w3] at h; apply Ar F; go_simp; refine ⟨_, AN gk E (j1) 1 _ w3, ?_⟩; go_simp; (repeat apply Aq); refine Af (by go_simp) ?_; apply As; go_simp; obtain rfl := Option.some.inj h; apply Ar F; go_simp; apply Au; go_simp
 rw [if_neg wb] at h; apply Ar F; go_simp; (repeat apply Aq); refine Af (by go_simp) ?_; by_cases wc : s = ⟨#[114, 101, 100, 117, 99, 101]⟩
 ·rw [if_pos wc] at h
  apply Ar F; go_simp; (repeat apply Aq); refine At (by go_simp) ?_; apply Ar F; go_simp; apply Ar F; go_simp; have c5 := IH f (Nat.le_refl f) E hE _ _ r h; refine ⟨_, c5, ?_⟩; cases r with
  | bad a5 e5 => go_simp
  | ok n j =>
   obtain ⟨k, s, m, q, l, b⟩ := n; clear c5; go_simp; apply Au; go_simp
 rw [if_neg wc] at h; apply Ar F; go_simp; (repeat apply Aq); refine Af (by go_simp) ?_; by_cases wd : s = ⟨#[102, 111, 114, 101, 97, 99, 104]⟩
 ·rw [if_pos wd] at h
  apply Ar F; go_simp; (repeat apply Aq); refine At (by go_simp) ?_; apply Ar F; go_simp; apply Ar F; go_simp; have c6 := IH f (Nat.le_refl f) E hE _ _ r h; refine ⟨_, c6, ?_⟩; cases r with
  | bad a6 e6 => go_simp
  | ok n j =>
   obtain ⟨k, s, m, q, l, b⟩ := n; clear c6; go_simp; apply Au; go_simp
 rw [if_neg wd] at h; apply Ar F; go_simp; (repeat apply Aq); refine Af (by go_simp) ?_; apply As; go_simp; by_cases w7 : DD E (i) 1
 ·rw [E5 w7] at h
  obtain rfl := Option.some.inj h; apply Ar F; go_simp; refine ⟨_, Dq gk E hE (i) 1 w7, ?_⟩; go_simp
 rw [EZ w7] at h; apply Ar F; go_simp; refine ⟨_, Dd gk E hE (i) 1 (by decide) w7, ?_⟩; go_simp; by_cases wp : isT E (i + 1) 6 ⟨#[40]⟩
 ·rw [if_pos wp] at h
  apply Ar F; go_simp; refine ⟨_, AQ gk E hE.len (i + 1) 6 (by decide) _ wp, ?_⟩; go_simp; (repeat apply Aq); refine At (by go_simp) ?_; (repeat apply Aq); apply Ab; (repeat apply Aq); refine Cb [0, 4, 6] [1000, 4, 6, 74] (by decide) (fun g s => ∃ (kids : List NJ) (j : Nat), s = mkS [(0, .ptr 1000 0), (4, .ptr 4 0), (6, .ptr 6 0)] [(1000, .box ((A5 E j).map .im)), (4, .box Et), (6, .box [.im (iI 23), .im (sI (Aa E i).text), .im (iI 0), .im (iI 0), Jo 74 kids, .im (.sl [] true)]), (74, JJ kids)] ∧ g ≤ f ∧ j ≤ E.l.length ∧ kids.length ≤ j ∧ AY g E (.callLoop (Aa E i).text kids) j = some r) (f) ?_ ?_
  ·refine ⟨[], i + 1 + 1, ?_, Nat.le_refl f, CZ (by decide) wp, Nat.zero_le _, h⟩
   go_simp
  rintro g s ⟨kids, j, rfl, hg, hj, hk, h⟩; rcases g with _ | g
  ·cases h
  simp only [AY, Ak] at h; have hlen := hE.len; have hk1 : kids.length + 2 ≤ 1000000000 := by omega
  (repeat apply Aq); apply Ab; rcases kids with _ | ⟨ka, kids⟩
  ·try (have hk2 : kids.length ≤ 999999998 := by simp only [List.length_cons] at hk1; omega)
   (repeat apply Aq); refine Ad F [0, 1, 2, 3, 4, 5, 6, 7] [(1, 3)] mixed (by kernel_rfl) ?_; go_simp; obtain ⟨x8, hx8, h⟩ := Ay h; have c8 := IH g (by omega) E hE _ _ x8 hx8; refine ⟨_, c8, ?_⟩; cases x8 with
   | bad a8 e8 => subst h; go_simp
   | ok n2 j2 =>
    have hb := Ju g E .filter j hj _ _ hx8; obtain ⟨k2, s2, m2, q2, l2, b2⟩ := n2; dsimp only at h; clear c8 hx8; go_simp; by_cases wq : isT E (j2) 6 ⟨#[59]⟩
    ·rw [if_pos wq] at h
     apply Ar F; go_simp; refine ⟨_, AQ gk E hE.len (j2) 6 (by decide) _ wq, ?_⟩; go_simp; (repeat apply Aq); refine Af (by go_simp) ?_; apply As; go_simp; have hj2 := CZ (by decide) wq; refine ⟨g, by omega, _, j2 + 1, ?_, by omega, by omega, by simp only [List.length_append, List.length_cons, List.length_nil] at hk ⊢; omega, h⟩; go_simp
    rw [if_neg wq] at h; apply Ar F; go_simp; refine ⟨_, AN gk E (j2) 6 _ wq, ?_⟩; go_simp; (repeat apply Aq); refine At (by go_simp) ?_; apply Ae; go_simp; by_cases w9 : isT E (j2) 6 ⟨#[41]⟩
    ·rw [AR w9] at h
     apply Ar F; go_simp; refine ⟨_, An gk E hE (j2) 6 (by decide) _ w9, ?_⟩; go_simp; obtain rfl := Option.some.inj h; apply Ar F; go_simp; apply Au; go_simp
    rw [AU w9] at h; obtain rfl := Option.some.inj h; apply Ar F; go_simp; refine ⟨_, Az gk E hE (j2) 6 _ w9, ?_⟩; go_simp
  try (have hk2 : kids.length ≤ 999999998 := by simp only [List.length_cons] at hk1; omega)
  (repeat apply Aq); refine Ad F [0, 1, 2, 3, 4, 5, 6, 7] [(1, 3)] mixed (by kernel_rfl) ?_; go_simp; obtain ⟨x10, hx10, h⟩ := Ay h; have c10 := IH g (by omega) E hE _ _ x10 hx10; refine ⟨_, c10, ?_⟩; cases x10 with
  | bad a10 e10 => subst h; go_simp
  | ok n2 j2 =>
   have hb := Ju g E .filter j hj _ _ hx10; obtain ⟨k2, s2, m2, q2, l2, b2⟩ := n2; dsimp only at h; clear c10 hx10; go_simp; by_cases wq : isT E (j2) 6 ⟨#[59]⟩
   ·rw [if_pos wq] at h
    apply Ar F; go_simp; refine ⟨_, AQ gk E hE.len (j2) 6 (by decide) _ wq, ?_⟩; go_simp; (repeat apply Aq); refine Af (by go_simp) ?_; apply As; go_simp; have hj2 := CZ (by decide) wq; refine ⟨g, by omega, _, j2 + 1, ?_, by omega, by omega, by simp only [List.length_append, List.length_cons, List.length_nil] at hk ⊢; omega, h⟩; go_simp
   rw [if_neg wq] at h; apply Ar F; go_simp; refine ⟨_, AN gk E (j2) 6 _ wq, ?_⟩; go_simp; (repeat apply Aq); refine At (by go_simp) ?_; apply Ae; go_simp; by_cases w11 : isT E (j2) 6 ⟨#[41]⟩
   ·rw [AR w11] at h
    apply Ar F; go_simp; refine ⟨_, An gk E hE (j2) 6 (by decide) _ w11, ?_⟩; go_simp; obtain rfl := Option.some.inj h; apply Ar F; go_simp; apply Au; go_simp
   rw [AU w11] at h; obtain rfl := Option.some.inj h; apply Ar F; go_simp; refine ⟨_, Az gk E hE (j2) 6 _ w11, ?_⟩; go_simp
 rw [if_neg wp] at h; apply Ar F; go_simp; refine ⟨_, AN gk E (i + 1) 6 _ wp, ?_⟩; go_simp; (repeat apply Aq); refine Af (by go_simp) ?_; apply As; go_simp; obtain rfl := Option.some.inj h; apply Ar F; go_simp; apply Au; go_simp
theorem Yl (gk : GK G) (f : Nat) (IH : IHP G f) (E : Env) (hE : EB E) (i : Nat) (r : PR NJ) (h : Ak (AY f) E (.def_) i = some r) : ACalls Tryz.prog G 79 (some (A5 E i)) [] (CG E r) := by
  simp only [Ak] at h; refine ACalls.enter Tryz.func79 rfl rfl gk Tryz.ntmps79 fun X F => ?_
  by_cases w1 : DD E (i) 1
  · rw [E5 w1] at h
    obtain rfl := Option.some.inj h; apply Ar F; go_simp; apply Ar F; go_simp; refine ⟨_, Dq gk E hE (i) 1 w1, ?_⟩; go_simp
  rw [EZ w1] at h; apply Ar F; go_simp; apply Ar F; go_simp; refine ⟨_, Dd gk E hE (i) 1 (by decide) w1, ?_⟩; go_simp; by_cases wp : isT E (i + 1) 6 ⟨#[40]⟩
  · rw [if_pos wp] at h
    apply Ar F; go_simp; refine ⟨_, AQ gk E hE.len (i + 1) 6 (by decide) _ wp, ?_⟩; go_simp; (repeat apply Aq); refine At (by go_simp) ?_; (repeat apply Aq); apply Ab; (repeat apply Aq); refine Cb [0, 2, 3] [1000, 2, 3, 29, 36] (by decide) (fun g s => ∃ (acc : List ByteArray) (j : Nat) (w : W2), s = mkS [(0, .ptr 1000 0), (2, .ptr 2 0), (3, .ptr 3 0)] [(1000, .box ((A5 E j).map .im)), (2, .box Et), (3, .box [.im (iI 24), .im (sI (Aa E i).text), .im (iI 0), .im (iI 0), .im (.sl [] true), SP 29 36 w acc]), (29, SH w acc), (36, Sh w acc)] ∧ j ≤ E.l.length ∧ acc.length ≤ j ∧ Db E (fun args j => A8 E j 6 ⟨#[41]⟩ fun j => A8 E j 6 ⟨#[58]⟩ fun j => A3 (AY f E .filter j) fun what j => A8 E j 6 ⟨#[59]⟩ fun j => A3 (AY f E .filter j) fun m j => okP (.mk 24 (Aa E i).text 0 0 [what, m] args) j) g acc j = some r) (E.l.length + 1) ?_ ?_
    · refine ⟨[], i + 1 + 1, .a, ?_, CZ (by decide) wp, Nat.zero_le _, h⟩
      go_simp
    rintro g s ⟨acc, j, w, rfl, hj, hk, h⟩; rcases g with _ | g
    · cases h
    simp only [Db] at h; have hlen := hE.len; have hk1 : acc.length + 2 ≤ 1000000000 := by omega
    (repeat apply Aq); apply Ab; rcases acc with _ | ⟨ka, acc⟩ <;> rcases w with _ | _
    · try (have hk2 : acc.length ≤ 999999998 := by simp only [List.length_cons] at hk1; omega)
      apply Ar F; go_simp; refine ⟨_, C3 gk E j, ?_⟩; go_simp; by_cases k2 : (Aa E j).kind = 2
      · rw [if_pos k2] at h
        have hj9 := CJ (E := E) (i := j) (by rw [k2]; decide); have htx : 1 + (Aa E j).text.size ≤ 9223372036854775807 := by have := hE.tx _ (EY hj9); omega
        have hr := rng ((j : Int) + 1) (by have := hE.len; omega); apply Ar F; go_simp; (repeat apply Aq); refine At (by go_simp) ?_; by_cases wq : isT E (j + 1) 6 ⟨#[59]⟩
        · rw [if_pos wq] at h
          (iterate 3 apply Ar F;go_simp);refine ⟨_, AQ gk E hE.len (j + 1) 6 (by decide) _ wq, ?_⟩;go_simp;(repeat apply Aq);refine Af (by go_simp) ?_;apply As;go_simp;have hj2 := CZ (by decide) wq;first
            | (refine ⟨g, by omega, _, j + 1 + 1, ⟨.a, ?_⟩, by omega, by simp only [List.length_append, List.length_cons, List.length_nil] at hk ⊢; omega, h⟩
               go_simp; done)
            | (refine ⟨g, by omega, _, j + 1 + 1, ⟨.b, ?_⟩, by omega, by simp only [List.length_append, List.length_cons, List.length_nil] at hk ⊢; omega, h⟩
               go_simp; done)
        rw [if_neg wq] at h;(iterate 3 apply Ar F;go_simp);refine ⟨_, AN gk E (j + 1) 6 _ wq, ?_⟩;go_simp;(repeat apply Aq);refine At (by go_simp) ?_;apply Ae;go_simp;by_cases w2 : isT E (j + 1) 6 ⟨#[41]⟩
        · rw [AR w2] at h
          apply Ar F; go_simp; refine ⟨_, An gk E hE (j + 1) 6 (by decide) _ w2, ?_⟩; go_simp; by_cases w3 : isT E (j + 1 + 1) 6 ⟨#[58]⟩
          · rw [AR w3] at h
            apply Ar F; go_simp; refine ⟨_, An gk E hE (j + 1 + 1) 6 (by decide) _ w3, ?_⟩; go_simp; apply Ar F; go_simp; obtain ⟨x4, hx4, h⟩ := Ay h; have c4 := IH f (Nat.le_refl f) E hE _ _ x4 hx4; refine ⟨_, c4, ?_⟩; cases x4 with
            | bad a4 e4 => subst h; go_simp
            | ok n5 j5 =>
              obtain ⟨k5, s5, m5, q5, l5, b5⟩ := n5; dsimp only at h; clear c4 hx4; go_simp; by_cases w5 : isT E (j5) 6 ⟨#[59]⟩
              · rw [AR w5] at h
                apply Ar F; go_simp; refine ⟨_, An gk E hE (j5) 6 (by decide) _ w5, ?_⟩; go_simp; (repeat apply Aq); refine Ad F [0, 1, 2, 3, 4, 5] [(0, 2)] mixed (by kernel_rfl) ?_; go_simp; obtain ⟨x6, hx6, h⟩ := Ay h; have c6 := IH f (Nat.le_refl f) E hE _ _ x6 hx6; refine ⟨_, c6, ?_⟩; cases x6 with
                | bad a6 e6 => subst h; go_simp
                | ok n6 j6 =>
                  obtain ⟨k6, s6, m6, q6, l6, b6⟩ := n6; dsimp only at h; clear c6 hx6; go_simp; obtain rfl := Option.some.inj h; apply Ar F; go_simp; apply Au; go_simp
              rw [AU w5] at h; obtain rfl := Option.some.inj h; apply Ar F; go_simp; refine ⟨_, Az gk E hE (j5) 6 _ w5, ?_⟩; go_simp
          rw [AU w3] at h; obtain rfl := Option.some.inj h; apply Ar F; go_simp; refine ⟨_, Az gk E hE (j + 1 + 1) 6 _ w3, ?_⟩; go_simp
        rw [AU w2] at h; obtain rfl := Option.some.inj h; apply Ar F; go_simp; refine ⟨_, Az gk E hE (j + 1) 6 _ w2, ?_⟩; go_simp
      rw [if_neg k2] at h; have k2n : ¬ ((Aa E j).kind : Int) = 2 := by omega
      apply Ar F; go_simp; (repeat apply Aq); refine Af (by go_simp) ?_; by_cases w7 : DD E (j) 1
      · rw [E5 w7] at h
        obtain rfl := Option.some.inj h; (repeat apply Aq); refine Ad F [0, 1, 2, 3, 4, 5, 6, 7] [(1, 3)] mixed (by kernel_rfl) ?_; go_simp; refine ⟨_, Dq gk E hE (j) 1 w7, ?_⟩; go_simp
      rw [EZ w7] at h; (repeat apply Aq); refine Ad F [0, 1, 2, 3, 4, 5, 6, 7] [(1, 3)] mixed (by kernel_rfl) ?_; go_simp; refine ⟨_, Dd gk E hE (j) 1 (by decide) w7, ?_⟩; go_simp; by_cases wq : isT E (j + 1) 6 ⟨#[59]⟩
      · rw [if_pos wq] at h
        apply Ar F; go_simp; refine ⟨_, AQ gk E hE.len (j + 1) 6 (by decide) _ wq, ?_⟩; go_simp; (repeat apply Aq); refine Af (by go_simp) ?_; apply As; go_simp; have hj2 := CZ (by decide) wq; first
          | (refine ⟨g, by omega, _, j + 1 + 1, ⟨.a, ?_⟩, by omega, by simp only [List.length_append, List.length_cons, List.length_nil] at hk ⊢; omega, h⟩
             go_simp; done)
          | (refine ⟨g, by omega, _, j + 1 + 1, ⟨.b, ?_⟩, by omega, by simp only [List.length_append, List.length_cons, List.length_nil] at hk ⊢; omega, h⟩
             go_simp; done)
      rw [if_neg wq] at h; apply Ar F; go_simp; refine ⟨_, AN gk E (j + 1) 6 _ wq, ?_⟩; go_simp; (repeat apply Aq); refine At (by go_simp) ?_; apply Ae; go_simp; by_cases w8 : isT E (j + 1) 6 ⟨#[41]⟩
      · rw [AR w8] at h
        apply Ar F; go_simp; refine ⟨_, An gk E hE (j + 1) 6 (by decide) _ w8, ?_⟩; go_simp; by_cases w9 : isT E (j + 1 + 1) 6 ⟨#[58]⟩
        · rw [AR w9] at h
          apply Ar F; go_simp; refine ⟨_, An gk E hE (j + 1 + 1) 6 (by decide) _ w9, ?_⟩; go_simp; apply Ar F; go_simp; obtain ⟨x10, hx10, h⟩ := Ay h; have c10 := IH f (Nat.le_refl f) E hE _ _ x10 hx10; refine ⟨_, c10, ?_⟩; cases x10 with
          | bad a10 e10 => subst h; go_simp
          | ok n5 j5 =>
            obtain ⟨k5, s5, m5, q5, l5, b5⟩ := n5; dsimp only at h; clear c10 hx10; go_simp; by_cases w11 : isT E (j5) 6 ⟨#[59]⟩
            · rw [AR w11] at h
              apply Ar F; go_simp; refine ⟨_, An gk E hE (j5) 6 (by decide) _ w11, ?_⟩; go_simp; (repeat apply Aq); refine Ad F [0, 1, 2, 3, 4, 5] [(0, 2)] mixed (by kernel_rfl) ?_; go_simp; obtain ⟨x12, hx12, h⟩ := Ay h; have c12 := IH f (Nat.le_refl f) E hE _ _ x12 hx12; refine ⟨_, c12, ?_⟩; cases x12 with
              | bad a12 e12 => subst h; go_simp
              | ok n6 j6 =>
                obtain ⟨k6, s6, m6, q6, l6, b6⟩ := n6; dsimp only at h; clear c12 hx12; go_simp; obtain rfl := Option.some.inj h; apply Ar F; go_simp; apply Au; go_simp
            rw [AU w11] at h; obtain rfl := Option.some.inj h; apply Ar F; go_simp; refine ⟨_, Az gk E hE (j5) 6 _ w11, ?_⟩; go_simp
        rw [AU w9] at h; obtain rfl := Option.some.inj h; apply Ar F; go_simp; refine ⟨_, Az gk E hE (j + 1 + 1) 6 _ w9, ?_⟩; go_simp
      rw [AU w8] at h; obtain rfl := Option.some.inj h; apply Ar F; go_simp; refine ⟨_, Az gk E hE (j + 1) 6 _ w8, ?_⟩; go_simp
    · try (have hk2 : acc.length ≤ 999999998 := by simp only [List.length_cons] at hk1; omega)
      apply Ar F; go_simp; refine ⟨_, C3 gk E j, ?_⟩; go_simp; by_cases k2 : (Aa E j).kind = 2
      · rw [if_pos k2] at h
        have hj9 := CJ (E := E) (i := j) (by rw [k2]; decide); have htx : 1 + (Aa E j).text.size ≤ 9223372036854775807 := by have := hE.tx _ (EY hj9); omega
        have hr := rng ((j : Int) + 1) (by have := hE.len; omega); apply Ar F; go_simp; (repeat apply Aq); refine At (by go_simp) ?_; by_cases wq : isT E (j + 1) 6 ⟨#[59]⟩
        · rw [if_pos wq] at h
          (iterate 3 apply Ar F;go_simp);refine ⟨_, AQ gk E hE.len (j + 1) 6 (by decide) _ wq, ?_⟩;go_simp;(repeat apply Aq);refine Af (by go_simp) ?_;apply As;go_simp;have hj2 := CZ (by decide) wq;first
            | (refine ⟨g, by omega, _, j + 1 + 1, ⟨.a, ?_⟩, by omega, by simp only [List.length_append, List.length_cons, List.length_nil] at hk ⊢; omega, h⟩
               go_simp; done)
            | (refine ⟨g, by omega, _, j + 1 + 1, ⟨.b, ?_⟩, by omega, by simp only [List.length_append, List.length_cons, List.length_nil] at hk ⊢; omega, h⟩
               go_simp; done)
        rw [if_neg wq] at h;(iterate 3 apply Ar F;go_simp);refine ⟨_, AN gk E (j + 1) 6 _ wq, ?_⟩;go_simp;(repeat apply Aq);refine At (by go_simp) ?_;apply Ae;go_simp;by_cases w13 : isT E (j + 1) 6 ⟨#[41]⟩
        · rw [AR w13] at h
          apply Ar F; go_simp; refine ⟨_, An gk E hE (j + 1) 6 (by decide) _ w13, ?_⟩; go_simp; by_cases w14 : isT E (j + 1 + 1) 6 ⟨#[58]⟩
          · rw [AR w14] at h
            apply Ar F; go_simp; refine ⟨_, An gk E hE (j + 1 + 1) 6 (by decide) _ w14, ?_⟩; go_simp; apply Ar F; go_simp; obtain ⟨x15, hx15, h⟩ := Ay h; have c15 := IH f (Nat.le_refl f) E hE _ _ x15 hx15; refine ⟨_, c15, ?_⟩; cases x15 with
            | bad a15 e15 => subst h; go_simp
            | ok n5 j5 =>
              obtain ⟨k5, s5, m5, q5, l5, b5⟩ := n5; dsimp only at h; clear c15 hx15; go_simp; by_cases w16 : isT E (j5) 6 ⟨#[59]⟩
              · rw [AR w16] at h
                apply Ar F; go_simp; refine ⟨_, An gk E hE (j5) 6 (by decide) _ w16, ?_⟩; go_simp; (repeat apply Aq); refine Ad F [0, 1, 2, 3, 4, 5] [(0, 2)] mixed (by kernel_rfl) ?_; go_simp; obtain ⟨x17, hx17, h⟩ := Ay h; have c17 := IH f (Nat.le_refl f) E hE _ _ x17 hx17; refine ⟨_, c17, ?_⟩; cases x17 with
                | bad a17 e17 => subst h; go_simp
                | ok n6 j6 =>
                  obtain ⟨k6, s6, m6, q6, l6, b6⟩ := n6; dsimp only at h; clear c17 hx17; go_simp; obtain rfl := Option.some.inj h; apply Ar F; go_simp; apply Au; go_simp
              rw [AU w16] at h; obtain rfl := Option.some.inj h; apply Ar F; go_simp; refine ⟨_, Az gk E hE (j5) 6 _ w16, ?_⟩; go_simp
          rw [AU w14] at h; obtain rfl := Option.some.inj h; apply Ar F; go_simp; refine ⟨_, Az gk E hE (j + 1 + 1) 6 _ w14, ?_⟩; go_simp
        rw [AU w13] at h; obtain rfl := Option.some.inj h; apply Ar F; go_simp; refine ⟨_, Az gk E hE (j + 1) 6 _ w13, ?_⟩; go_simp
      rw [if_neg k2] at h; have k2n : ¬ ((Aa E j).kind : Int) = 2 := by omega
      apply Ar F; go_simp; (repeat apply Aq); refine Af (by go_simp) ?_; by_cases w18 : DD E (j) 1
      · rw [E5 w18] at h
        obtain rfl := Option.some.inj h; (repeat apply Aq); refine Ad F [0, 1, 2, 3, 4, 5, 6, 7] [(1, 3)] mixed (by kernel_rfl) ?_; go_simp; refine ⟨_, Dq gk E hE (j) 1 w18, ?_⟩; go_simp
      rw [EZ w18] at h; (repeat apply Aq); refine Ad F [0, 1, 2, 3, 4, 5, 6, 7] [(1, 3)] mixed (by kernel_rfl) ?_; go_simp; refine ⟨_, Dd gk E hE (j) 1 (by decide) w18, ?_⟩; go_simp; by_cases wq : isT E (j + 1) 6 ⟨#[59]⟩
      · rw [if_pos wq] at h
        apply Ar F; go_simp; refine ⟨_, AQ gk E hE.len (j + 1) 6 (by decide) _ wq, ?_⟩; go_simp; (repeat apply Aq); refine Af (by go_simp) ?_; apply As; go_simp; have hj2 := CZ (by decide) wq; first
          | (refine ⟨g, by omega, _, j + 1 + 1, ⟨.a, ?_⟩, by omega, by simp only [List.length_append, List.length_cons, List.length_nil] at hk ⊢; omega, h⟩
             go_simp; done)
          | (refine ⟨g, by omega, _, j + 1 + 1, ⟨.b, ?_⟩, by omega, by simp only [List.length_append, List.length_cons, List.length_nil] at hk ⊢; omega, h⟩
             go_simp; done)
      rw [if_neg wq] at h; apply Ar F; go_simp; refine ⟨_, AN gk E (j + 1) 6 _ wq, ?_⟩; go_simp; (repeat apply Aq); refine At (by go_simp) ?_; apply Ae; go_simp; by_cases w19 : isT E (j + 1) 6 ⟨#[41]⟩
      · rw [AR w19] at h
        apply Ar F; go_simp; refine ⟨_, An gk E hE (j + 1) 6 (by decide) _ w19, ?_⟩; go_simp; by_cases w20 : isT E (j + 1 + 1) 6 ⟨#[58]⟩
        · rw [AR w20] at h
          apply Ar F; go_simp; refine ⟨_, An gk E hE (j + 1 + 1) 6 (by decide) _ w20, ?_⟩; go_simp; apply Ar F; go_simp; obtain ⟨x21, hx21, h⟩ := Ay h; have c21 := IH f (Nat.le_refl f) E hE _ _ x21 hx21; refine ⟨_, c21, ?_⟩; cases x21 with
          | bad a21 e21 => subst h; go_simp
          | ok n5 j5 =>
            obtain ⟨k5, s5, m5, q5, l5, b5⟩ := n5; dsimp only at h; clear c21 hx21; go_simp; by_cases w22 : isT E (j5) 6 ⟨#[59]⟩
            · rw [AR w22] at h
              apply Ar F; go_simp; refine ⟨_, An gk E hE (j5) 6 (by decide) _ w22, ?_⟩; go_simp; (repeat apply Aq); refine Ad F [0, 1, 2, 3, 4, 5] [(0, 2)] mixed (by kernel_rfl) ?_; go_simp; obtain ⟨x23, hx23, h⟩ := Ay h; have c23 := IH f (Nat.le_refl f) E hE _ _ x23 hx23; refine ⟨_, c23, ?_⟩; cases x23 with
              | bad a23 e23 => subst h; go_simp
              | ok n6 j6 =>
                obtain ⟨k6, s6, m6, q6, l6, b6⟩ := n6; dsimp only at h; clear c23 hx23; go_simp; obtain rfl := Option.some.inj h; apply Ar F; go_simp; apply Au; go_simp
            rw [AU w22] at h; obtain rfl := Option.some.inj h; apply Ar F; go_simp; refine ⟨_, Az gk E hE (j5) 6 _ w22, ?_⟩; go_simp
        rw [AU w20] at h; obtain rfl := Option.some.inj h; apply Ar F; go_simp; refine ⟨_, Az gk E hE (j + 1 + 1) 6 _ w20, ?_⟩; go_simp
      rw [AU w19] at h; obtain rfl := Option.some.inj h; apply Ar F; go_simp; refine ⟨_, Az gk E hE (j + 1) 6 _ w19, ?_⟩; go_simp
    · try (have hk2 : acc.length ≤ 999999998 := by simp only [List.length_cons] at hk1; omega)
      apply Ar F; go_simp; refine ⟨_, C3 gk E j, ?_⟩; go_simp; by_cases k2 : (Aa E j).kind = 2
      · rw [if_pos k2] at h
        have hj9 := CJ (E := E) (i := j) (by rw [k2]; decide); have htx : 1 + (Aa E j).text.size ≤ 9223372036854775807 := by have := hE.tx _ (EY hj9); omega
        have hr := rng ((j : Int) + 1) (by have := hE.len; omega); apply Ar F; go_simp; (repeat apply Aq); refine At (by go_simp) ?_; by_cases wq : isT E (j + 1) 6 ⟨#[59]⟩
        · rw [if_pos wq] at h
          (iterate 3 apply Ar F;go_simp);refine ⟨_, AQ gk E hE.len (j + 1) 6 (by decide) _ wq, ?_⟩;go_simp;(repeat apply Aq);refine Af (by go_simp) ?_;apply As;go_simp;have hj2 := CZ (by decide) wq;first
            | (refine ⟨g, by omega, _, j + 1 + 1, ⟨.a, ?_⟩, by omega, by simp only [List.length_append, List.length_cons, List.length_nil] at hk ⊢; omega, h⟩
               go_simp; done)
            | (refine ⟨g, by omega, _, j + 1 + 1, ⟨.b, ?_⟩, by omega, by simp only [List.length_append, List.length_cons, List.length_nil] at hk ⊢; omega, h⟩
               go_simp; done)
        rw [if_neg wq] at h;(iterate 3 apply Ar F;go_simp);refine ⟨_, AN gk E (j + 1) 6 _ wq, ?_⟩;go_simp;(repeat apply Aq);refine At (by go_simp) ?_;apply Ae;go_simp;by_cases w24 : isT E (j + 1) 6 ⟨#[41]⟩
        · rw [AR w24] at h
          apply Ar F; go_simp; refine ⟨_, An gk E hE (j + 1) 6 (by decide) _ w24, ?_⟩; go_simp; by_cases w25 : isT E (j + 1 + 1) 6 ⟨#[58]⟩
          · rw [AR w25] at h
            apply Ar F; go_simp; refine ⟨_, An gk E hE (j + 1 + 1) 6 (by decide) _ w25, ?_⟩; go_simp; apply Ar F; go_simp; obtain ⟨x26, hx26, h⟩ := Ay h; have c26 := IH f (Nat.le_refl f) E hE _ _ x26 hx26; refine ⟨_, c26, ?_⟩; cases x26 with
            | bad a26 e26 => subst h; go_simp
            | ok n5 j5 =>
              obtain ⟨k5, s5, m5, q5, l5, b5⟩ := n5; dsimp only at h; clear c26 hx26; go_simp; by_cases w27 : isT E (j5) 6 ⟨#[59]⟩
              · rw [AR w27] at h
                apply Ar F; go_simp; refine ⟨_, An gk E hE (j5) 6 (by decide) _ w27, ?_⟩; go_simp; (repeat apply Aq); refine Ad F [0, 1, 2, 3, 4, 5] [(0, 2)] mixed (by kernel_rfl) ?_; go_simp; obtain ⟨x28, hx28, h⟩ := Ay h; have c28 := IH f (Nat.le_refl f) E hE _ _ x28 hx28; refine ⟨_, c28, ?_⟩; cases x28 with
                | bad a28 e28 => subst h; go_simp
                | ok n6 j6 =>
                  obtain ⟨k6, s6, m6, q6, l6, b6⟩ := n6; dsimp only at h; clear c28 hx28; go_simp; obtain rfl := Option.some.inj h; apply Ar F; go_simp; apply Au; go_simp
              rw [AU w27] at h; obtain rfl := Option.some.inj h; apply Ar F; go_simp; refine ⟨_, Az gk E hE (j5) 6 _ w27, ?_⟩; go_simp
          rw [AU w25] at h; obtain rfl := Option.some.inj h; apply Ar F; go_simp; refine ⟨_, Az gk E hE (j + 1 + 1) 6 _ w25, ?_⟩; go_simp
        rw [AU w24] at h; obtain rfl := Option.some.inj h; apply Ar F; go_simp; refine ⟨_, Az gk E hE (j + 1) 6 _ w24, ?_⟩; go_simp
      rw [if_neg k2] at h; have k2n : ¬ ((Aa E j).kind : Int) = 2 := by omega
      apply Ar F; go_simp; (repeat apply Aq); refine Af (by go_simp) ?_; by_cases w29 : DD E (j) 1
      · rw [E5 w29] at h
        obtain rfl := Option.some.inj h; (repeat apply Aq); refine Ad F [0, 1, 2, 3, 4, 5, 6, 7] [(1, 3)] mixed (by kernel_rfl) ?_; go_simp; refine ⟨_, Dq gk E hE (j) 1 w29, ?_⟩; go_simp
      rw [EZ w29] at h; (repeat apply Aq); refine Ad F [0, 1, 2, 3, 4, 5, 6, 7] [(1, 3)] mixed (by kernel_rfl) ?_; go_simp; refine ⟨_, Dd gk E hE (j) 1 (by decide) w29, ?_⟩; go_simp; by_cases wq : isT E (j + 1) 6 ⟨#[59]⟩
      · rw [if_pos wq] at h
        apply Ar F; go_simp; refine ⟨_, AQ gk E hE.len (j + 1) 6 (by decide) _ wq, ?_⟩; go_simp; (repeat apply Aq); refine Af (by go_simp) ?_; apply As; go_simp; have hj2 := CZ (by decide) wq; first
          | (refine ⟨g, by omega, _, j + 1 + 1, ⟨.a, ?_⟩, by omega, by simp only [List.length_append, List.length_cons, List.length_nil] at hk ⊢; omega, h⟩
             go_simp; done)
          | (refine ⟨g, by omega, _, j + 1 + 1, ⟨.b, ?_⟩, by omega, by simp only [List.length_append, List.length_cons, List.length_nil] at hk ⊢; omega, h⟩
             go_simp; done)
      rw [if_neg wq] at h; apply Ar F; go_simp; refine ⟨_, AN gk E (j + 1) 6 _ wq, ?_⟩; go_simp; (repeat apply Aq); refine At (by go_simp) ?_; apply Ae; go_simp; by_cases w30 : isT E (j + 1) 6 ⟨#[41]⟩
      · rw [AR w30] at h
        apply Ar F; go_simp; refine ⟨_, An gk E hE (j + 1) 6 (by decide) _ w30, ?_⟩; go_simp; by_cases w31 : isT E (j + 1 + 1) 6 ⟨#[58]⟩
        · rw [AR w31] at h
          apply Ar F; go_simp; refine ⟨_, An gk E hE (j + 1 + 1) 6 (by decide) _ w31, ?_⟩; go_simp; apply Ar F; go_simp; obtain ⟨x32, hx32, h⟩ := Ay h; have c32 := IH f (Nat.le_refl f) E hE _ _ x32 hx32; refine ⟨_, c32, ?_⟩; cases x32 with
          | bad a32 e32 => subst h; go_simp
          | ok n5 j5 =>
            obtain ⟨k5, s5, m5, q5, l5, b5⟩ := n5; dsimp only at h; clear c32 hx32; go_simp; by_cases w33 : isT E (j5) 6 ⟨#[59]⟩
            · rw [AR w33] at h
              apply Ar F; go_simp; refine ⟨_, An gk E hE (j5) 6 (by decide) _ w33, ?_⟩; go_simp; (repeat apply Aq); refine Ad F [0, 1, 2, 3, 4, 5] [(0, 2)] mixed (by kernel_rfl) ?_; go_simp; obtain ⟨x34, hx34, h⟩ := Ay h; have c34 := IH f (Nat.le_refl f) E hE _ _ x34 hx34; refine ⟨_, c34, ?_⟩; cases x34 with
              | bad a34 e34 => subst h; go_simp
              | ok n6 j6 =>
                obtain ⟨k6, s6, m6, q6, l6, b6⟩ := n6; dsimp only at h; clear c34 hx34; go_simp; obtain rfl := Option.some.inj h; apply Ar F; go_simp; apply Au; go_simp
            rw [AU w33] at h; obtain rfl := Option.some.inj h; apply Ar F; go_simp; refine ⟨_, Az gk E hE (j5) 6 _ w33, ?_⟩; go_simp
        rw [AU w31] at h; obtain rfl := Option.some.inj h; apply Ar F; go_simp; refine ⟨_, Az gk E hE (j + 1 + 1) 6 _ w31, ?_⟩; go_simp
      rw [AU w30] at h; obtain rfl := Option.some.inj h; apply Ar F; go_simp; refine ⟨_, Az gk E hE (j + 1) 6 _ w30, ?_⟩; go_simp
    try (have hk2 : acc.length ≤ 999999998 := by simp only [List.length_cons] at hk1; omega)
    apply Ar F; go_simp; refine ⟨_, C3 gk E j, ?_⟩; go_simp; by_cases k2 : (Aa E j).kind = 2
    · rw [if_pos k2] at h
      have hj9 := CJ (E := E) (i := j) (by rw [k2]; decide); have htx : 1 + (Aa E j).text.size ≤ 9223372036854775807 := by have := hE.tx _ (EY hj9); omega
      have hr := rng ((j : Int) + 1) (by have := hE.len; omega); apply Ar F; go_simp; (repeat apply Aq); refine At (by go_simp) ?_; by_cases wq : isT E (j + 1) 6 ⟨#[59]⟩
      · rw [if_pos wq] at h
        (iterate 3 apply Ar F;go_simp);refine ⟨_, AQ gk E hE.len (j + 1) 6 (by decide) _ wq, ?_⟩;go_simp;(repeat apply Aq);refine Af (by go_simp) ?_;apply As;go_simp;have hj2 := CZ (by decide) wq;first
          | (refine ⟨g, by omega, _, j + 1 + 1, ⟨.a, ?_⟩, by omega, by simp only [List.length_append, List.length_cons, List.length_nil] at hk ⊢; omega, h⟩
             go_simp; done)
          | (refine ⟨g, by omega, _, j + 1 + 1, ⟨.b, ?_⟩, by omega, by simp only [List.length_append, List.length_cons, List.length_nil] at hk ⊢; omega, h⟩
             go_simp; done)
      rw [if_neg wq] at h;(iterate 3 apply Ar F;go_simp);refine ⟨_, AN gk E (j + 1) 6 _ wq, ?_⟩;go_simp;(repeat apply Aq);refine At (by go_simp) ?_;apply Ae;go_simp;by_cases w35 : isT E (j + 1) 6 ⟨#[41]⟩
      · rw [AR w35] at h
        apply Ar F; go_simp; refine ⟨_, An gk E hE (j + 1) 6 (by decide) _ w35, ?_⟩; go_simp; by_cases w36 : isT E (j + 1 + 1) 6 ⟨#[58]⟩
        · rw [AR w36] at h
          apply Ar F; go_simp; refine ⟨_, An gk E hE (j + 1 + 1) 6 (by decide) _ w36, ?_⟩; go_simp; apply Ar F; go_simp; obtain ⟨x37, hx37, h⟩ := Ay h; have c37 := IH f (Nat.le_refl f) E hE _ _ x37 hx37; refine ⟨_, c37, ?_⟩; cases x37 with
          | bad a37 e37 => subst h; go_simp
          | ok n5 j5 =>
            obtain ⟨k5, s5, m5, q5, l5, b5⟩ := n5; dsimp only at h; clear c37 hx37; go_simp; by_cases w38 : isT E (j5) 6 ⟨#[59]⟩
            · rw [AR w38] at h
              apply Ar F; go_simp; refine ⟨_, An gk E hE (j5) 6 (by decide) _ w38, ?_⟩; go_simp; (repeat apply Aq); refine Ad F [0, 1, 2, 3, 4, 5] [(0, 2)] mixed (by kernel_rfl) ?_; go_simp; obtain ⟨x39, hx39, h⟩ := Ay h; have c39 := IH f (Nat.le_refl f) E hE _ _ x39 hx39; refine ⟨_, c39, ?_⟩; cases x39 with
              | bad a39 e39 => subst h; go_simp
              | ok n6 j6 =>
                obtain ⟨k6, s6, m6, q6, l6, b6⟩ := n6; dsimp only at h; clear c39 hx39; go_simp; obtain rfl := Option.some.inj h; apply Ar F; go_simp; apply Au; go_simp
            rw [AU w38] at h; obtain rfl := Option.some.inj h; apply Ar F; go_simp; refine ⟨_, Az gk E hE (j5) 6 _ w38, ?_⟩; go_simp
        rw [AU w36] at h; obtain rfl := Option.some.inj h; apply Ar F; go_simp; refine ⟨_, Az gk E hE (j + 1 + 1) 6 _ w36, ?_⟩; go_simp
      rw [AU w35] at h; obtain rfl := Option.some.inj h; apply Ar F; go_simp; refine ⟨_, Az gk E hE (j + 1) 6 _ w35, ?_⟩; go_simp
    rw [if_neg k2] at h; have k2n : ¬ ((Aa E j).kind : Int) = 2 := by omega
    apply Ar F; go_simp; (repeat apply Aq); refine Af (by go_simp) ?_; by_cases w40 : DD E (j) 1
    · rw [E5 w40] at h
      obtain rfl := Option.some.inj h; (repeat apply Aq); refine Ad F [0, 1, 2, 3, 4, 5, 6, 7] [(1, 3)] mixed (by kernel_rfl) ?_; go_simp; refine ⟨_, Dq gk E hE (j) 1 w40, ?_⟩; go_simp
    rw [EZ w40] at h; (repeat apply Aq); refine Ad F [0, 1, 2, 3, 4, 5, 6, 7] [(1, 3)] mixed (by kernel_rfl) ?_; go_simp; refine ⟨_, Dd gk E hE (j) 1 (by decide) w40, ?_⟩; go_simp; by_cases wq : isT E (j + 1) 6 ⟨#[59]⟩
    · rw [if_pos wq] at h
      apply Ar F; go_simp; refine ⟨_, AQ gk E hE.len (j + 1) 6 (by decide) _ wq, ?_⟩; go_simp; (repeat apply Aq); refine Af (by go_simp) ?_; apply As; go_simp; have hj2 := CZ (by decide) wq; first
        | (refine ⟨g, by omega, _, j + 1 + 1, ⟨.a, ?_⟩, by omega, by simp only [List.length_append, List.length_cons, List.length_nil] at hk ⊢; omega, h⟩
           go_simp; done)
        | (refine ⟨g, by omega, _, j + 1 + 1, ⟨.b, ?_⟩, by omega, by simp only [List.length_append, List.length_cons, List.length_nil] at hk ⊢; omega, h⟩
           go_simp; done)
    rw [if_neg wq] at h; apply Ar F; go_simp; refine ⟨_, AN gk E (j + 1) 6 _ wq, ?_⟩; go_simp; (repeat apply Aq); refine At (by go_simp) ?_; apply Ae; go_simp; by_cases w41 : isT E (j + 1) 6 ⟨#[41]⟩
    · rw [AR w41] at h
      apply Ar F; go_simp; refine ⟨_, An gk E hE (j + 1) 6 (by decide) _ w41, ?_⟩; go_simp; by_cases w42 : isT E (j + 1 + 1) 6 ⟨#[58]⟩
      · rw [AR w42] at h
        apply Ar F; go_simp; refine ⟨_, An gk E hE (j + 1 + 1) 6 (by decide) _ w42, ?_⟩; go_simp; apply Ar F; go_simp; obtain ⟨x43, hx43, h⟩ := Ay h; have c43 := IH f (Nat.le_refl f) E hE _ _ x43 hx43; refine ⟨_, c43, ?_⟩; cases x43 with
        | bad a43 e43 => subst h; go_simp
        | ok n5 j5 =>
          obtain ⟨k5, s5, m5, q5, l5, b5⟩ := n5; dsimp only at h; clear c43 hx43; go_simp; by_cases w44 : isT E (j5) 6 ⟨#[59]⟩
          · rw [AR w44] at h
            apply Ar F; go_simp; refine ⟨_, An gk E hE (j5) 6 (by decide) _ w44, ?_⟩; go_simp; (repeat apply Aq); refine Ad F [0, 1, 2, 3, 4, 5] [(0, 2)] mixed (by kernel_rfl) ?_; go_simp; obtain ⟨x45, hx45, h⟩ := Ay h; have c45 := IH f (Nat.le_refl f) E hE _ _ x45 hx45; refine ⟨_, c45, ?_⟩; cases x45 with
            | bad a45 e45 => subst h; go_simp
            | ok n6 j6 =>
              obtain ⟨k6, s6, m6, q6, l6, b6⟩ := n6; dsimp only at h; clear c45 hx45; go_simp; obtain rfl := Option.some.inj h; apply Ar F; go_simp; apply Au; go_simp
          rw [AU w44] at h; obtain rfl := Option.some.inj h; apply Ar F; go_simp; refine ⟨_, Az gk E hE (j5) 6 _ w44, ?_⟩; go_simp
      rw [AU w42] at h; obtain rfl := Option.some.inj h; apply Ar F; go_simp; refine ⟨_, Az gk E hE (j + 1 + 1) 6 _ w42, ?_⟩; go_simp
    rw [AU w41] at h; obtain rfl := Option.some.inj h; apply Ar F; go_simp; refine ⟨_, Az gk E hE (j + 1) 6 _ w41, ?_⟩; go_simp
  rw [if_neg wp] at h; apply Ar F; go_simp; refine ⟨_, AN gk E (i + 1) 6 _ wp, ?_⟩; go_simp; (repeat apply Aq); refine Af (by go_simp) ?_; apply As; go_simp; by_cases w46 : isT E (i + 1) 6 ⟨#[58]⟩
  · rw [AR w46] at h
    apply Ar F; go_simp; refine ⟨_, An gk E hE (i + 1) 6 (by decide) _ w46, ?_⟩; go_simp; apply Ar F; go_simp; obtain ⟨x47, hx47, h⟩ := Ay h; have c47 := IH f (Nat.le_refl f) E hE _ _ x47 hx47; refine ⟨_, c47, ?_⟩; cases x47 with
    | bad a47 e47 => subst h; go_simp
    | ok n5 j5 =>
      obtain ⟨k5, s5, m5, q5, l5, b5⟩ := n5; dsimp only at h; clear c47 hx47; go_simp; by_cases w48 : isT E (j5) 6 ⟨#[59]⟩
      · rw [AR w48] at h
        apply Ar F; go_simp; refine ⟨_, An gk E hE (j5) 6 (by decide) _ w48, ?_⟩; go_simp; (repeat apply Aq); refine Ad F [0, 1, 2, 3, 4, 5] [(0, 2)] mixed (by kernel_rfl) ?_; go_simp; obtain ⟨x49, hx49, h⟩ := Ay h; have c49 := IH f (Nat.le_refl f) E hE _ _ x49 hx49; refine ⟨_, c49, ?_⟩; cases x49 with
        | bad a49 e49 => subst h; go_simp
        | ok n6 j6 =>
          obtain ⟨k6, s6, m6, q6, l6, b6⟩ := n6; dsimp only at h; clear c49 hx49; go_simp; obtain rfl := Option.some.inj h; apply Ar F; go_simp; apply Au; go_simp
      rw [AU w48] at h; obtain rfl := Option.some.inj h; apply Ar F; go_simp; refine ⟨_, Az gk E hE (j5) 6 _ w48, ?_⟩; go_simp
  rw [AU w46] at h; obtain rfl := Option.some.inj h; apply Ar F; go_simp; refine ⟨_, Az gk E hE (i + 1) 6 _ w46, ?_⟩; go_simp
end Go.Proofs.YtakncilicoefdaaGreatDoor
