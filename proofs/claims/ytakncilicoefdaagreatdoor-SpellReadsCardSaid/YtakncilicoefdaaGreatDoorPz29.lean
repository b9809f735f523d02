/- Lemmas and contracts. Conditions: those that each lemma names. -/
import Derived.Test.YtakncilicoefdaaGreatDoorPz28
set_option maxRecDepth 100000
set_option maxHeartbeats 4000000
namespace Go.Proofs.YtakncilicoefdaaGreatDoor
open Go Go.RowKit Go.Proofs Th
set_option maxRecDepth 8000
attribute [local go_sem] JH IP Et
variable {G : World → CS → Prop}
theorem Ds : ∀ a b, A6 (a ++ b) = A6 a ++ A6 b
 | [], _ => rfl
 | x :: r, b => by rw [List.cons_append, A6, A6, Ds r b]; rfl
theorem BI : ∀ a, (A6 a).length = a.length
 | [] => rfl
 | _ :: r => by rw [A6, List.length_cons, List.length_cons, BI r]
def Jo (d : Nat) : List NJ → FV
 | [] => .im (.sl [] true)
 | a :: r => .own d (a :: r).length
def JJ : List NJ → AObj
 | [] => .none
 | a :: r => .row 27 6 (A6 (a :: r))
structure Fl where
 a : Bool
 b : Bool
def IW : NJ → Fl → List IV
 | .mk k s m e l ks, ⟨f1, f2⟩ => [iI k, sI s, iI m, iI e, .sl (A6 l) f1, .sl (ks.map fun x => [sI x]) f2]
attribute [local go_sem] Ds BI Jo JJ IW
theorem Vo (gk : GK G) (f : Nat) (IH : IHP G f) (E : Env) (hE : EB E) (i : Nat) (r : PR NJ) (h : Ak (AY f) E (.term) i = some r) : ACalls Tryz.prog G 130 (some (A5 E i)) [] (CG E r) := by
 simp only [Ak] at h; refine ACalls.enter Tryz.func130 rfl rfl gk Tryz.ntmps130 fun X F => ?_
 apply Ar F; go_simp; apply Ar F; go_simp; obtain ⟨x1, hx1, h⟩ := Ay h; have c1 := IH f (Nat.le_refl f) E hE _ _ x1 hx1; refine ⟨_, c1, ?_⟩; cases x1 with
 | bad a1 e1 => subst h; go_simp
 | ok n1 j1 =>
  obtain ⟨k1, s1, m1, q1, l1, b1⟩ := n1; dsimp only at h; clear c1 hx1; go_simp; (repeat apply Aq); apply Ab; (repeat apply Aq); refine Cb [0, 2, 3] [1000, 2, 3] (by decide) (fun g s => ∃ (x : NJ) (j : Nat) (fl : Fl), s = mkS [(0, .ptr 1000 0), (2, .ptr 2 0), (3, .ptr 3 0)] [(1000, .box ((A5 E j).map .im)), (2, .box Et), (3, .box ((IW x fl).map .im))] ∧ g ≤ f ∧ AY g E (.termLoop x) j = some r) (f) ?_ ?_
  ·refine ⟨(.mk k1 s1 m1 q1 l1 b1), j1, ⟨false, false⟩, ?_, Nat.le_refl f, h⟩
   go_simp
  rintro g s ⟨x, j, ⟨f1, f2⟩, rfl, hg, h⟩; rcases g with _ | g
  ·cases h
  obtain ⟨k1, s1, m1, q1, l1, b1⟩ := x; simp only [AY, Ak] at h; (repeat apply Aq); apply Ab; apply Ar F; go_simp; refine ⟨_, C3 gk E j, ?_⟩; go_simp; by_cases w3 : (Aa E j).kind = 3
  ·rw [if_pos w3] at h
   have hj := CJ (E := E) (i := j) (by rw [w3]; decide); have hr := rng ((j : Int) + 1) (by have := hE.len; omega); apply Ar F; go_simp; (repeat apply Aq); apply Ab; apply Ar F; go_simp; (repeat apply Aq); refine At (by go_simp) ?_; apply Ar F; go_simp; (repeat apply Aq); refine Ad F [0, 1, 2, 3, 4, 5] [(0, 3)] mixed (by kernel_rfl) ?_; go_simp; refine ⟨_, EU gk _, ?_⟩; go_simp; refine ⟨_, Fx gk (.mk k1 s1 m1 q1 l1 b1) (Bg (Aa E j).text), ?_⟩; go_simp; refine ⟨g, by omega, (Ax 5 ⟨#[]⟩ (.mk k1 s1 m1 q1 l1 b1) (Bg (Aa E j).text)), j + 1, ⟨⟨false, false⟩, ?_⟩, by omega, h⟩; go_simp
  rw [if_neg w3] at h; have w3n : ¬ ((Aa E j).kind : Int) = 3 := by omega
  by_cases wa : isT E j 6 ⟨#[63]⟩
  ·rw [if_pos wa] at h
   have v1 := wa.1; have v2 := wa.2; apply Ar F; go_simp; (repeat apply Aq); apply Ab; apply Ar F; go_simp; (repeat apply Aq); refine Af (by go_simp) ?_; apply Ar F; go_simp; refine ⟨_, AQ gk E hE.len j 6 (by decide) _ wa, ?_⟩; go_simp; (repeat apply Aq); refine At (by go_simp) ?_; apply Ar F; go_simp; refine ⟨g, by omega, (Ag 18 [(.mk k1 s1 m1 q1 l1 b1)]), j + 1, ⟨⟨true, true⟩, ?_⟩, by omega, h⟩; go_simp
  rw [if_neg wa] at h; by_cases wb : isT E j 6 ⟨#[91]⟩
  ·rw [if_pos wb] at h
   have v1 := wb.1; have v2 := wb.2; apply Ar F; go_simp; (repeat apply Aq); apply Ab; apply Ar F; go_simp; (repeat apply Aq); refine Af (by go_simp) ?_; apply Ar F; go_simp; refine ⟨_, AN gk E j 6  _ wa, ?_⟩; go_simp; (repeat apply Aq); refine Af (by go_simp) ?_; apply Ar F; go_simp; refine ⟨_, (decide_eq_true wb ▸ CN gk E (j) 6 _), ?_⟩; go_simp; (repeat apply Aq); refine At (by go_simp) ?_; apply Ar F; go_simp; obtain ⟨x2, hx2, h⟩ := Ay h; have c2 := IH g (by omega) E hE _ _ x2 hx2; refine ⟨_, c2, ?_⟩; cases x2 with
   | bad a2 e2 => subst h; go_simp
   | ok n2 j2 =>
    obtain ⟨k2, s2, m2, q2, l2, b2⟩ := n2; dsimp only at h; clear c2 hx2; go_simp; refine ⟨g, by omega, (.mk k2 s2 m2 q2 l2 b2), j2, ⟨⟨false, false⟩, ?_⟩, by omega, h⟩; go_simp
  rw [if_neg wb] at h; by_cases wc : isT E j 6 ⟨#[46]⟩
  ·rw [if_pos wc] at h
   have v1 := wc.1; have v2 := wc.2; have hj := CZ (by decide) wc; have hr := rng ((j : Int) + 1) (by have := hE.len; omega); by_cases k5 : (Aa E (j + 1)).kind = 5
   ·rw [if_pos k5] at h
    have hj1 := CJ (E := E) (i := j + 1) (by rw [k5]; decide); have hj2 : (j : Int) + 1 < (E.l.length : Int) := by omega
    have hj0 : 0 ≤ (j : Int) + 1 := by omega
    have k5t := k5; rw [Mf hj1] at k5t; apply Ar F; go_simp; (repeat apply Aq); apply Ab; apply Ar F; go_simp; (repeat apply Aq); refine Af (by go_simp) ?_; apply Ar F; go_simp; refine ⟨_, AN gk E j 6  _ wa, ?_⟩; go_simp; (repeat apply Aq); refine Af (by go_simp) ?_; apply Ar F; go_simp; refine ⟨_, (decide_eq_false wb ▸ CN gk E (j) 6 _), ?_⟩; go_simp; (repeat apply Aq); refine Af (by go_simp) ?_; (repeat apply Aq); refine Ad F [0, 1, 2, 3, 4, 5, 6, 7, 8, 9, 10, 11, 12, 13, 14, 15, 16, 17, 18, 19, 20, 21, 22, 23, 24, 25, 26, 27, 28, 29] [] mixed (by kernel_rfl) ?_; go_simp; (repeat apply Aq); refine At (by go_simp) ?_; apply Ar F; go_simp; (repeat apply Aq); refine Ad F [0, 1, 2, 3, 4] [(0, 2)] mixed (by kernel_rfl) ?_; go_simp; obtain ⟨x3, hx3, h⟩ := Ay h; have c3 := IH g (by omega) E hE _ _ x3 hx3; refine ⟨_, c3, ?_⟩; cases x3 with
    | bad a3 e3 => subst h; go_simp
    | ok n2 j2 =>
     obtain ⟨k2, s2, m2, q2, l2, b2⟩ := n2; dsimp only at h; clear c3 hx3; go_simp; refine ⟨_, Fx gk (.mk k1 s1 m1 q1 l1 b1) (.mk k2 s2 m2 q2 l2 b2), ?_⟩; go_simp; refine ⟨g, by omega, (Ax 5 ⟨#[]⟩ (.mk k1 s1 m1 q1 l1 b1) (.mk k2 s2 m2 q2 l2 b2)), j2, ⟨⟨false, false⟩, ?_⟩, by omega, h⟩; go_simp
   rw [if_neg k5] at h; by_cases hj1 : j + 1 < E.l.length
   ·have hj2 : (j : Int) + 1 < (E.l.length : Int) := by omega
    have hj0 : 0 ≤ (j : Int) + 1 := by omega
    have k5t : ¬ ((E.l[j + 1].kind : Nat) : Int) = 5 := by rw [← Mf hj1]; omega
    apply Ar F; go_simp; (repeat apply Aq); apply Ab; apply Ar F; go_simp; (repeat apply Aq); refine Af (by go_simp) ?_; apply Ar F; go_simp; refine ⟨_, AN gk E j 6  _ wa, ?_⟩; go_simp; (repeat apply Aq); refine Af (by go_simp) ?_; apply Ar F; go_simp; refine ⟨_, (decide_eq_false wb ▸ CN gk E (j) 6 _), ?_⟩; go_simp; (repeat apply Aq); refine Af (by go_simp) ?_; (repeat apply Aq); refine Ad F [0, 1, 2, 3, 4, 5, 6, 7, 8, 9, 10, 11, 12, 13, 14, 15, 16, 17, 18, 19, 20, 21, 22, 23, 24, 25, 26, 27, 28, 29] [] mixed (by kernel_rfl) ?_; go_simp; (repeat apply Aq); refine Af (by go_simp) ?_; apply Ar F; go_simp; (repeat apply Aq); refine At (by go_simp) ?_; by_cases wd : isT E (j + 1) 6 ⟨#[91]⟩
    ·rw [if_pos wd] at h
     apply Ar F; go_simp; apply Ar F; go_simp; refine ⟨_, (decide_eq_true wd ▸ CN gk E (j + 1) 6 _), ?_⟩; go_simp; (repeat apply Aq); refine Af (by go_simp) ?_; apply As; go_simp; apply Ar F; go_simp; obtain ⟨x4, hx4, h⟩ := Ay h; have c4 := IH g (by omega) E hE _ _ x4 hx4; refine ⟨_, c4, ?_⟩; cases x4 with
     | bad a4 e4 => subst h; go_simp
     | ok n2 j2 =>
      obtain ⟨k2, s2, m2, q2, l2, b2⟩ := n2; dsimp only at h; clear c4 hx4; go_simp; refine ⟨g, by omega, (.mk k2 s2 m2 q2 l2 b2), j2, ⟨⟨false, false⟩, ?_⟩, by omega, h⟩; go_simp
    rw [if_neg wd] at h; obtain rfl := Option.some.inj h; apply Ar F; go_simp; apply Ar F; go_simp; refine ⟨_, (decide_eq_false wd ▸ CN gk E (j + 1) 6 _), ?_⟩; go_simp; (repeat apply Aq); refine At (by go_simp) ?_; apply Ar F; go_simp; refine ⟨_, Cq gk E hE (j + 1) 60, ?_⟩; go_simp
   have hj2 : ¬ (j : Int) + 1 < (E.l.length : Int) := by omega
   have wd : ¬ isT E (j + 1) 6 ⟨#[91]⟩ := fun v => hj1 (CZ (by decide) v)
   rw [if_neg wd] at h; obtain rfl := Option.some.inj h; apply Ar F; go_simp; (repeat apply Aq); apply Ab; apply Ar F; go_simp; (repeat apply Aq); refine Af (by go_simp) ?_; apply Ar F; go_simp; refine ⟨_, AN gk E j 6  _ wa, ?_⟩; go_simp; (repeat apply Aq); refine Af (by go_simp) ?_; apply Ar F; go_simp; refine ⟨_, (decide_eq_false wb ▸ CN gk E (j) 6 _), ?_⟩; go_simp; (repeat apply Aq); refine Af (by go_simp) ?_; (repeat apply Aq); refine Ad F [0, 1, 2, 3, 4, 5, 6, 7, 8, 9, 10, 11, 12, 13, 14, 15, 16, 17, 18, 19, 20, 21, 22, 23, 24, 25, 26, 27, 28, 29] [] mixed (by kernel_rfl) ?_; go_simp; (repeat apply Aq); refine Af (by go_simp) ?_; apply Ar F; go_simp; (repeat apply Aq); refine At (by go_simp) ?_; apply Ar F; go_simp; apply Ar F; go_simp; refine ⟨_, (decide_eq_false wd ▸ CN gk E (j + 1) 6 _), ?_⟩; go_simp; (repeat apply Aq); refine At (by go_simp) ?_; apply Ar F; go_simp; refine ⟨_, Cq gk E hE (j + 1) 60, ?_⟩; go_simp
  rw [if_neg wc] at h; by_cases v6 : (Aa E j).kind = 6
  ·have v2 : ¬ (Aa E j).text = ⟨#[46]⟩ := fun v => wc ⟨v6, v⟩
   obtain rfl := Option.some.inj h;apply Ar F;go_simp;(repeat apply Aq);apply Ab;apply Ar F;go_simp;(repeat apply Aq);refine Af (by go_simp) ?_;apply Ar F;go_simp;refine ⟨_, AN gk E j 6  _ wa, ?_⟩;go_simp;(repeat apply Aq);refine Af (by go_simp) ?_;apply Ar F;go_simp;refine ⟨_, (decide_eq_false wb ▸ CN gk E (j) 6 _), ?_⟩;go_simp;(repeat apply Aq);refine Af (by go_simp) ?_;(repeat apply Aq);refine Ad F [0, 1, 2, 3, 4, 5, 6, 7, 8, 9, 10, 11, 12, 13, 14, 15, 16, 17, 18, 19, 20, 21, 22, 23, 24, 25, 26, 27, 28, 29] [] mixed (by kernel_rfl) ?_;(iterate 2 go_simp;(repeat apply Aq);refine Af (by go_simp) ?_;apply Ar F);go_simp;apply Au;go_simp
  have v6n : ¬ ((Aa E j).kind : Int) = 6 := by omega
  obtain rfl := Option.some.inj h;apply Ar F;go_simp;(repeat apply Aq);apply Ab;apply Ar F;go_simp;(repeat apply Aq);refine Af (by go_simp) ?_;apply Ar F;go_simp;refine ⟨_, AN gk E j 6  _ wa, ?_⟩;go_simp;(repeat apply Aq);refine Af (by go_simp) ?_;apply Ar F;go_simp;refine ⟨_, (decide_eq_false wb ▸ CN gk E (j) 6 _), ?_⟩;go_simp;(repeat apply Aq);refine Af (by go_simp) ?_;(repeat apply Aq);refine Ad F [0, 1, 2, 3, 4, 5, 6, 7, 8, 9, 10, 11, 12, 13, 14, 15, 16, 17, 18, 19, 20, 21, 22, 23, 24, 25, 26, 27, 28, 29] [] mixed (by kernel_rfl) ?_;(iterate 2 go_simp;(repeat apply Aq);refine Af (by go_simp) ?_;apply Ar F);go_simp;apply Au;go_simp
def PairP (o : Option (PR NJ)) : Prop := ∀ n j, o = some (.ok n j) → ∃ k v, n = Ag 0 [k, v]
theorem PairP.fail {E : Env} {i e : Nat} : PairP (Da E i e) := fun n j h => by cases h
theorem PairP.ok {k v : NJ} {i : Nat} : PairP (okP (Ag 0 [k, v]) i) := fun n j h => by cases h; exact ⟨_, _, rfl⟩
theorem PairP.bind {α : Type} {x : Option (PR α)} {f : α → Nat → Option (PR NJ)} (hf : ∀ a j, PairP (f a j)) : PairP (A3 x f) := by
 cases x with
 | none => intro a j h; cases h
 | some y =>
  cases y with
  | bad a e => intro a j h; cases h
  | ok n j => exact hf n j
theorem PairP.want {E : Env} {i k : Nat} {s : ByteArray} {f : Nat → Option (PR NJ)} (hf : ∀ j, PairP (f j)) : PairP (A8 E i k s f) := by
 unfold A8; split
 ·exact hf _
 exact PairP.fail
theorem PairP.ite {c : Prop} [Decidable c] {x y : Option (PR NJ)} (hx : PairP x) (hy : PairP y) : PairP (if c then x else y) := by
 split
 ·exact hx
 exact hy
theorem LX {f : Nat} {E : Env} {i : Nat} : PairP (AY f E .entry i) := by
 cases f with
 | zero => intro n j h; cases h
 | succ f =>
  simp only [AY, Ak]; have hv : ∀ k j, PairP (A8 E j 6 ⟨#[58]⟩ fun j => A3 (AY f E (.binary 2) j) fun v j => okP (Ag 0 [k, v]) j) := fun k j => PairP.want fun _ => PairP.bind fun _ _ => PairP.ok
  have ha : ∀ k j, PairP (if isT E j 6 ⟨#[58]⟩ then (A8 E j 6 ⟨#[58]⟩ fun j => A3 (AY f E (.binary 2) j) fun v j => okP (Ag 0 [k, v]) j) else okP (Ag 0 [k, Ax 5 ⟨#[]⟩ BR k]) j) := fun k j => PairP.ite (hv k j) PairP.ok
  refine PairP.ite PairP.ok (PairP.ite (ha _ _) (PairP.ite (PairP.bind fun _ _ => ha _ _) (PairP.ite (PairP.bind fun _ _ => PairP.want fun _ => hv _ _) PairP.fail)))
theorem P0 {f : Nat} {E : Env} {i : Nat} {n : NJ} {j : Nat} (h : AY f E .entry i = some (.ok n j)) : i < E.l.length := by
 rcases Nat.lt_or_ge i E.l.length with h1 | h1
 ·exact h1
 exfalso; have h0 : (Aa E i).kind = 0 := by rw [Ov (by omega)]; rfl
 cases f with
 | zero => cases h
 | succ f =>
  simp only [AY, Ak] at h; rw [if_neg (by omega), if_neg (by omega), if_neg (by omega), if_neg (fun hT => by have := hT.1; omega)] at h; cases h
theorem Sv (gk : GK G) (f : Nat) (IH : IHP G f) (E : Env) (hE : EB E) (i : Nat) (r : PR NJ) (h : Ak (AY f) E (.object) i = some r) : ACalls Tryz.prog G 164 (some (A5 E i)) [] (CG E r) := by
 simp only [Ak] at h; refine ACalls.enter Tryz.func164 rfl rfl gk Tryz.ntmps164 fun X F => ?_
 by_cases w1 : isT E (i) 6 ⟨#[125]⟩
 ·rw [if_pos w1] at h
  (iterate 3 apply Ar F;go_simp);refine ⟨_, AQ gk E hE.len (i) 6 (by decide) _ w1, ?_⟩;go_simp;(repeat apply Aq);refine At (by go_simp) ?_;obtain rfl := Option.some.inj h;apply Ar F;go_simp;apply Au;go_simp
 rw [if_neg w1] at h;(iterate 3 apply Ar F;go_simp);refine ⟨_, AN gk E (i) 6 _ w1, ?_⟩;go_simp;(repeat apply Aq);refine Af (by go_simp) ?_;apply As;go_simp;(repeat apply Aq);apply Ab;(repeat apply Aq);refine Cb [0, 2, 3] [1000, 2, 3, 20] (by decide) (fun g s => ∃ (kids : List NJ) (j : Nat), s = mkS [(0, .ptr 1000 0), (2, .ptr 2 0), (3, .ptr 3 0)] [(1000, .box ((A5 E j).map .im)), (2, .box Et), (3, .box [.im (iI 16), .im (sI ⟨#[]⟩), .im (iI 0), .im (iI 0), Jo 20 kids, .im (.sl [] true)]), (20, JJ kids)] ∧ g ≤ f ∧ kids.length ≤ 2 * j ∧ AY g E (.objLoop kids) j = some r) (f) ?_ ?_
 ·refine ⟨[], i, ?_, Nat.le_refl f, Nat.zero_le _, h⟩
  go_simp
 rintro g s ⟨kids, j, rfl, hg, hk, h⟩; rcases g with _ | g
 ·cases h
 simp only [AY, Ak] at h; have hlen := hE.len; (repeat apply Aq); apply Ab; rcases kids with _ | ⟨ka, kids⟩
 ·apply Ar F
  go_simp; obtain ⟨x2, hx2, h⟩ := Ay h; have c2 := IH g (by omega) E hE _ _ x2 hx2; refine ⟨_, c2, ?_⟩; cases x2 with
  | bad a2 e2 => subst h; go_simp
  | ok n2 j2 =>
   have hj := Nat.le_of_lt (P0 hx2); try (have hk2 : kids.length ≤ 999999997 := by simp only [List.length_cons] at hk; omega)
   have hb := Ju g E .entry j hj _ _ hx2; obtain ⟨⟨k1, s1, m1, q1, l1, b1⟩, ⟨k2, s2, m2, q2, l2, b2⟩, rfl⟩ := LX _ _ hx2; simp only [Ag, NJ.kids] at h; clear c2 hx2; go_simp; by_cases wq : isT E (j2) 6 ⟨#[44]⟩
   ·rw [if_pos wq] at h
    apply Ar F; go_simp; apply Ar F; go_simp; refine ⟨_, AQ gk E hE.len (j2) 6 (by decide) _ wq, ?_⟩; go_simp; (repeat apply Aq); refine Af (by go_simp) ?_; apply As; go_simp; have hj2 := CZ (by decide) wq; refine ⟨g, by omega, _, j2 + 1, ?_, by omega, by simp only [List.length_append, List.length_cons, List.length_nil] at hk ⊢; omega, h⟩; go_simp
   rw [if_neg wq] at h; apply Ar F; go_simp; apply Ar F; go_simp; refine ⟨_, AN gk E (j2) 6 _ wq, ?_⟩; go_simp; (repeat apply Aq); refine At (by go_simp) ?_; apply Ae; go_simp; by_cases w3 : isT E (j2) 6 ⟨#[125]⟩
   ·rw [AR w3] at h
    apply Ar F; go_simp; refine ⟨_, An gk E hE (j2) 6 (by decide) _ w3, ?_⟩; go_simp; obtain rfl := Option.some.inj h; apply Ar F; go_simp; apply Au; go_simp
   rw [AU w3] at h; obtain rfl := Option.some.inj h; apply Ar F; go_simp; refine ⟨_, Az gk E hE (j2) 6 _ w3, ?_⟩; go_simp
 apply Ar F; go_simp; obtain ⟨x4, hx4, h⟩ := Ay h; have c4 := IH g (by omega) E hE _ _ x4 hx4; refine ⟨_, c4, ?_⟩; cases x4 with
 | bad a4 e4 => subst h; go_simp
 | ok n2 j2 =>
  have hj := Nat.le_of_lt (P0 hx4); try (have hk2 : kids.length ≤ 999999997 := by simp only [List.length_cons] at hk; omega)
  have hb := Ju g E .entry j hj _ _ hx4; obtain ⟨⟨k1, s1, m1, q1, l1, b1⟩, ⟨k2, s2, m2, q2, l2, b2⟩, rfl⟩ := LX _ _ hx4; simp only [Ag, NJ.kids] at h; clear c4 hx4; go_simp; by_cases wq : isT E (j2) 6 ⟨#[44]⟩
  ·rw [if_pos wq] at h
   apply Ar F; go_simp; apply Ar F; go_simp; refine ⟨_, AQ gk E hE.len (j2) 6 (by decide) _ wq, ?_⟩; go_simp; (repeat apply Aq); refine Af (by go_simp) ?_; apply As; go_simp; have hj2 := CZ (by decide) wq; refine ⟨g, by omega, _, j2 + 1, ?_, by omega, by simp only [List.length_append, List.length_cons, List.length_nil] at hk ⊢; omega, h⟩; go_simp
  rw [if_neg wq] at h; apply Ar F; go_simp; apply Ar F; go_simp; refine ⟨_, AN gk E (j2) 6 _ wq, ?_⟩; go_simp; (repeat apply Aq); refine At (by go_simp) ?_; apply Ae; go_simp; by_cases w5 : isT E (j2) 6 ⟨#[125]⟩
  ·rw [AR w5] at h
   apply Ar F; go_simp; refine ⟨_, An gk E hE (j2) 6 (by decide) _ w5, ?_⟩; go_simp; obtain rfl := Option.some.inj h; apply Ar F; go_simp; apply Au; go_simp
  rw [AU w5] at h; obtain rfl := Option.some.inj h; apply Ar F; go_simp; refine ⟨_, Az gk E hE (j2) 6 _ w5, ?_⟩; go_simp
end Go.Proofs.YtakncilicoefdaaGreatDoor
