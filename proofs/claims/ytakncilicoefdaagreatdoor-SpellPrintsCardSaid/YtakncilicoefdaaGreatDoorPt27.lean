/- Lemmas and contracts. Conditions: those that each lemma names. -/
import Derived.Test.YtakncilicoefdaaGreatDoorPt26
set_option maxRecDepth 100000
set_option maxHeartbeats 4000000
namespace Go.Proofs.YtakncilicoefdaaGreatDoor
open Go Go.RowKit Go.Proofs Th
set_option maxRecDepth 8000
attribute [local go_sem] Hq GJ EN
variable {G : World → CS → Prop}
theorem CD : ∀ a b, AJ (a ++ b) = AJ a ++ AJ b
 | [], _ => rfl
 | x :: r, b => by rw [List.cons_append, AJ, AJ, CD r b]; rfl
theorem AF : ∀ a, (AJ a).length = a.length
 | [] => rfl
 | _ :: r => by rw [AJ, List.length_cons, List.length_cons, AF r]
def K3 (d : Nat) : List NJ → FV
 | [] => .im (.sl [] true)
 | a :: r => .own d (a :: r).length
def KS : List NJ → AObj
 | [] => .none
 | a :: r => .row 27 6 (AJ (a :: r))
structure Fl where
 a : Bool
 b : Bool
def GA : NJ → Fl → List IV
 | .mk k s m e l ks, ⟨f1, f2⟩ => [iI k, sI s, iI m, iI e, .sl (AJ l) f1, .sl (ks.map fun x => [sI x]) f2]
attribute [local go_sem] CD AF K3 KS GA
theorem SJ (gk : GK G) (f : Nat) (IH : IHP G f) (E : Env) (hE : EB E) (i : Nat) (r : PR NJ) (h : BP (BO f) E (.term) i = some r) : ACalls Tryz.prog G 130 (some (A4 E i)) [] (CU E r) := by
 simp only [BP] at h; refine ACalls.enter Tryz.func130 rfl rfl gk Tryz.ntmps130 fun X F => ?_
 apply Ar F; go_simp; apply Ar F; go_simp; obtain ⟨x1, hx1, h⟩ := Ce h; have c1 := IH f (Nat.le_refl f) E hE _ _ x1 hx1; refine ⟨_, c1, ?_⟩; cases x1 with
 | bad a1 e1 => subst h; go_simp
 | ok n1 j1 =>
  obtain ⟨k1, s1, m1, q1, l1, b1⟩ := n1; dsimp only at h; clear c1 hx1; go_simp; (repeat apply Aq); apply Ab; (repeat apply Aq); refine A9 [0, 2, 3] [1000, 2, 3] (by decide) (fun g s => ∃ (x : NJ) (j : Nat) (fl : Fl), s = mkS [(0, .ptr 1000 0), (2, .ptr 2 0), (3, .ptr 3 0)] [(1000, .box ((A4 E j).map .im)), (2, .box EN), (3, .box ((GA x fl).map .im))] ∧ g ≤ f ∧ BO g E (.termLoop x) j = some r) (f) ?_ ?_
  ·refine ⟨(.mk k1 s1 m1 q1 l1 b1), j1, ⟨false, false⟩, ?_, Nat.le_refl f, h⟩
   go_simp
  rintro g s ⟨x, j, ⟨f1, f2⟩, rfl, hg, h⟩; rcases g with _ | g
  ·cases h
  obtain ⟨k1, s1, m1, q1, l1, b1⟩ := x; simp only [BO, BP] at h; (repeat apply Aq); apply Ab; apply Ar F; go_simp; refine ⟨_, D5 gk E j, ?_⟩; go_simp; by_cases w3 : (Aj E j).kind = 3
  ·rw [if_pos w3] at h
   have hj := DD (E := E) (i := j) (by rw [w3]; decide); have hr := rng ((j : Int) + 1) (by have := hE.len; omega); apply Ar F; go_simp; (repeat apply Aq); apply Ab; apply Ar F; go_simp; (repeat apply Aq); refine At (by go_simp) ?_; apply Ar F; go_simp; (repeat apply Aq); refine Ad F [0, 1, 2, 3, 4, 5] [(0, 3)] mixed (by kernel_rfl) ?_; go_simp; refine ⟨_, Ju gk _, ?_⟩; go_simp; refine ⟨_, K7 gk (.mk k1 s1 m1 q1 l1 b1) (Dp (Aj E j).text), ?_⟩; go_simp; refine ⟨g, by omega, (BX 5 ⟨#[]⟩ (.mk k1 s1 m1 q1 l1 b1) (Dp (Aj E j).text)), j + 1, ⟨⟨false, false⟩, ?_⟩, by omega, h⟩; go_simp
  rw [if_neg w3] at h; have w3n : ¬ ((Aj E j).kind : Int) = 3 := by omega
  by_cases wa : isT E j 6 ⟨#[63]⟩
  ·exact (hE.no (by decide) (by decide) wa).elim
  rw [if_neg wa] at h; by_cases wb : isT E j 6 ⟨#[91]⟩
  ·exact (hE.no (by decide) (by decide) wb).elim
  rw [if_neg wb] at h; by_cases wc : isT E j 6 ⟨#[46]⟩
  ·exact (hE.no (by decide) (by decide) wc).elim
  rw [if_neg wc] at h; by_cases v6 : (Aj E j).kind = 6
  ·have v2 : ¬ (Aj E j).text = ⟨#[46]⟩ := fun v => wc ⟨v6, v⟩
   obtain rfl := Option.some.inj h;apply Ar F;go_simp;(repeat apply Aq);apply Ab;apply Ar F;go_simp;(repeat apply Aq);refine Af (by go_simp) ?_;apply Ar F;go_simp;refine ⟨_, BM gk E j 6  _ wa, ?_⟩;go_simp;(repeat apply Aq);refine Af (by go_simp) ?_;apply Ar F;go_simp;refine ⟨_, (decide_eq_false wb ▸ Hi gk E (j) 6 _), ?_⟩;go_simp;(repeat apply Aq);refine Af (by go_simp) ?_;(repeat apply Aq);refine Ad F [0, 1, 2, 3, 4, 5, 6, 7, 8, 9, 10, 11, 12, 13, 14, 15, 16, 17, 18, 19, 20, 21, 22, 23, 24, 25, 26, 27, 28, 29] [] mixed (by kernel_rfl) ?_;(iterate 2 go_simp;(repeat apply Aq);refine Af (by go_simp) ?_;apply Ar F);go_simp;apply Au;go_simp
  have v6n : ¬ ((Aj E j).kind : Int) = 6 := by omega
  obtain rfl := Option.some.inj h;apply Ar F;go_simp;(repeat apply Aq);apply Ab;apply Ar F;go_simp;(repeat apply Aq);refine Af (by go_simp) ?_;apply Ar F;go_simp;refine ⟨_, BM gk E j 6  _ wa, ?_⟩;go_simp;(repeat apply Aq);refine Af (by go_simp) ?_;apply Ar F;go_simp;refine ⟨_, (decide_eq_false wb ▸ Hi gk E (j) 6 _), ?_⟩;go_simp;(repeat apply Aq);refine Af (by go_simp) ?_;(repeat apply Aq);refine Ad F [0, 1, 2, 3, 4, 5, 6, 7, 8, 9, 10, 11, 12, 13, 14, 15, 16, 17, 18, 19, 20, 21, 22, 23, 24, 25, 26, 27, 28, 29] [] mixed (by kernel_rfl) ?_;(iterate 2 go_simp;(repeat apply Aq);refine Af (by go_simp) ?_;apply Ar F);go_simp;apply Au;go_simp
def PairP (o : Option (PR NJ)) : Prop := ∀ n j, o = some (.ok n j) → ∃ k v, n = BG 0 [k, v]
theorem PairP.fail {E : Env} {i e : Nat} : PairP (DH E i e) := fun n j h => by cases h
theorem PairP.ok {k v : NJ} {i : Nat} : PairP (okP (BG 0 [k, v]) i) := fun n j h => by cases h; exact ⟨_, _, rfl⟩
theorem PairP.bind {α : Type} {x : Option (PR α)} {f : α → Nat → Option (PR NJ)} (hf : ∀ a j, PairP (f a j)) : PairP (AX x f) := by
 cases x with
 | none => intro a j h; cases h
 | some y =>
  cases y with
  | bad a e => intro a j h; cases h
  | ok n j => exact hf n j
theorem PairP.want {E : Env} {i k : Nat} {s : ByteArray} {f : Nat → Option (PR NJ)} (hf : ∀ j, PairP (f j)) : PairP (Bs E i k s f) := by
 unfold Bs; split
 ·exact hf _
 exact PairP.fail
theorem PairP.ite {c : Prop} [Decidable c] {x y : Option (PR NJ)} (hx : PairP x) (hy : PairP y) : PairP (if c then x else y) := by
 split
 ·exact hx
 exact hy
theorem Kk {f : Nat} {E : Env} {i : Nat} : PairP (BO f E .entry i) := by
 cases f with
 | zero => intro n j h; cases h
 | succ f =>
  simp only [BO, BP]; have hv : ∀ k j, PairP (Bs E j 6 ⟨#[58]⟩ fun j => AX (BO f E (.binary 2) j) fun v j => okP (BG 0 [k, v]) j) := fun k j => PairP.want fun _ => PairP.bind fun _ _ => PairP.ok
  have ha : ∀ k j, PairP (if isT E j 6 ⟨#[58]⟩ then (Bs E j 6 ⟨#[58]⟩ fun j => AX (BO f E (.binary 2) j) fun v j => okP (BG 0 [k, v]) j) else okP (BG 0 [k, BX 5 ⟨#[]⟩ Dh k]) j) := fun k j => PairP.ite (hv k j) PairP.ok
  refine PairP.ite PairP.ok (PairP.ite (ha _ _) (PairP.ite (PairP.bind fun _ _ => ha _ _) (PairP.ite (PairP.bind fun _ _ => PairP.want fun _ => hv _ _) PairP.fail)))
theorem MM {f : Nat} {E : Env} {i : Nat} {n : NJ} {j : Nat} (h : BO f E .entry i = some (.ok n j)) : i < E.l.length := by
 rcases Nat.lt_or_ge i E.l.length with h1 | h1
 ·exact h1
 exfalso; have h0 : (Aj E i).kind = 0 := by rw [ML (by omega)]; rfl
 cases f with
 | zero => cases h
 | succ f =>
  simp only [BO, BP] at h; rw [if_neg (by omega), if_neg (by omega), if_neg (by omega), if_neg (fun hT => by have := hT.1; omega)] at h; cases h
theorem Qa (gk : GK G) (f : Nat) (IH : IHP G f) (E : Env) (hE : EB E) (i : Nat) (r : PR NJ) (h : BP (BO f) E (.object) i = some r) : ACalls Tryz.prog G 164 (some (A4 E i)) [] (CU E r) := by
 simp only [BP] at h; refine ACalls.enter Tryz.func164 rfl rfl gk Tryz.ntmps164 fun X F => ?_
 by_cases w1 : isT E (i) 6 ⟨#[125]⟩
 ·rw [if_pos w1] at h
  (iterate 3 apply Ar F;go_simp);refine ⟨_, Fm gk E hE.len (i) 6 (by decide) _ w1, ?_⟩;go_simp;(repeat apply Aq);refine At (by go_simp) ?_;obtain rfl := Option.some.inj h;apply Ar F;go_simp;apply Au;go_simp
 rw [if_neg w1] at h;(iterate 3 apply Ar F;go_simp);refine ⟨_, BM gk E (i) 6 _ w1, ?_⟩;go_simp;(repeat apply Aq);refine Af (by go_simp) ?_;apply As;go_simp;(repeat apply Aq);apply Ab;(repeat apply Aq);refine A9 [0, 2, 3] [1000, 2, 3, 20] (by decide) (fun g s => ∃ (kids : List NJ) (j : Nat), s = mkS [(0, .ptr 1000 0), (2, .ptr 2 0), (3, .ptr 3 0)] [(1000, .box ((A4 E j).map .im)), (2, .box EN), (3, .box [.im (iI 16), .im (sI ⟨#[]⟩), .im (iI 0), .im (iI 0), K3 20 kids, .im (.sl [] true)]), (20, KS kids)] ∧ g ≤ f ∧ kids.length ≤ 2 * j ∧ BO g E (.objLoop kids) j = some r) (f) ?_ ?_
 ·refine ⟨[], i, ?_, Nat.le_refl f, Nat.zero_le _, h⟩
  go_simp
 rintro g s ⟨kids, j, rfl, hg, hk, h⟩; rcases g with _ | g
 ·cases h
 simp only [BO, BP] at h; have hlen := hE.len; (repeat apply Aq); apply Ab; rcases kids with _ | ⟨ka, kids⟩
 ·apply Ar F
  go_simp; obtain ⟨x2, hx2, h⟩ := Ce h; have c2 := IH g (by omega) E hE _ _ x2 hx2; refine ⟨_, c2, ?_⟩; cases x2 with
  | bad a2 e2 => subst h; go_simp
  | ok n2 j2 =>
   have hj := Nat.le_of_lt (MM hx2); try (have hk2 : kids.length ≤ 999999997 := by simp only [List.length_cons] at hk; omega)
   have hb := QV g E .entry j hj _ _ hx2; obtain ⟨⟨k1, s1, m1, q1, l1, b1⟩, ⟨k2, s2, m2, q2, l2, b2⟩, rfl⟩ := Kk _ _ hx2; simp only [BG, NJ.kids] at h; clear c2 hx2; go_simp; by_cases wq : isT E (j2) 6 ⟨#[44]⟩
   ·exact (hE.no (by decide) (by decide) wq).elim
   rw [if_neg wq] at h; apply Ar F; go_simp; apply Ar F; go_simp; refine ⟨_, BM gk E (j2) 6 _ wq, ?_⟩; go_simp; (repeat apply Aq); refine At (by go_simp) ?_; apply Ae; go_simp; by_cases w3 : isT E (j2) 6 ⟨#[125]⟩
   ·rw [OW w3] at h
    apply Ar F; go_simp; refine ⟨_, Hz gk E hE (j2) 6 (by decide) _ w3, ?_⟩; go_simp; obtain rfl := Option.some.inj h; apply Ar F; go_simp; apply Au; go_simp
   rw [O7 w3] at h; obtain rfl := Option.some.inj h; apply Ar F; go_simp; refine ⟨_, I4 gk E hE (j2) 6 _ w3, ?_⟩; go_simp
 apply Ar F; go_simp; obtain ⟨x4, hx4, h⟩ := Ce h; have c4 := IH g (by omega) E hE _ _ x4 hx4; refine ⟨_, c4, ?_⟩; cases x4 with
 | bad a4 e4 => subst h; go_simp
 | ok n2 j2 =>
  have hj := Nat.le_of_lt (MM hx4); try (have hk2 : kids.length ≤ 999999997 := by simp only [List.length_cons] at hk; omega)
  have hb := QV g E .entry j hj _ _ hx4; obtain ⟨⟨k1, s1, m1, q1, l1, b1⟩, ⟨k2, s2, m2, q2, l2, b2⟩, rfl⟩ := Kk _ _ hx4; simp only [BG, NJ.kids] at h; clear c4 hx4; go_simp; by_cases wq : isT E (j2) 6 ⟨#[44]⟩
  ·exact (hE.no (by decide) (by decide) wq).elim
  rw [if_neg wq] at h; apply Ar F; go_simp; apply Ar F; go_simp; refine ⟨_, BM gk E (j2) 6 _ wq, ?_⟩; go_simp; (repeat apply Aq); refine At (by go_simp) ?_; apply Ae; go_simp; by_cases w5 : isT E (j2) 6 ⟨#[125]⟩
  ·rw [OW w5] at h
   apply Ar F; go_simp; refine ⟨_, Hz gk E hE (j2) 6 (by decide) _ w5, ?_⟩; go_simp; obtain rfl := Option.some.inj h; apply Ar F; go_simp; apply Au; go_simp
  rw [O7 w5] at h; obtain rfl := Option.some.inj h; apply Ar F; go_simp; refine ⟨_, I4 gk E hE (j2) 6 _ w5, ?_⟩; go_simp
end Go.Proofs.YtakncilicoefdaaGreatDoor
