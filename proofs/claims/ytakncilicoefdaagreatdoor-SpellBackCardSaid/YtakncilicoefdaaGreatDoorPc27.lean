/- Lemmas and contracts. Conditions: those that each lemma names. -/
import Derived.Test.YtakncilicoefdaaGreatDoorPc25
import Derived.Test.YtakncilicoefdaaGreatDoorPc26
import Derived.Test.YtakncilicoefdaaGreatDoorPc10
set_option maxRecDepth 100000
set_option maxHeartbeats 4000000
namespace Go.Proofs.YtakncilicoefdaaGreatDoor
open Go Go.RowKit Go.Proofs Th
set_option maxRecDepth 8000
attribute [local go_sem] aops aopsD stepA chkD disj aguard isWant aop aval abuil acall acallP acallR argsIV valOf aput startS mkS numb look upd toIV allIV zeroFV aload setSeg afill aelems cellsOf toSl toVal valsOf aidx abin ainR FV.ok IV.one IV.er IV.erA IV.er1 iI sI bI nodeIV nodesIV tokIV parIV faultV resP lift AThen ABlock AEnd resL resV rload rcOf imsOf oneV nodeJ kidsJ strJ knownJ selfJ noNJ noTf foot owns pruneS filtF filtO Value.oneCell'
attribute [local go_sem] ti_node ti_tok ti_par ti_fault ti_nodes ti_toks ti_strs ti_ints ti_str ti_int ti_num ti_errno
attribute [local go_sem] resE pairV zeroN
variable {G : World → CS → Prop}
theorem nodesIV_append : ∀ a b, nodesIV (a ++ b) = nodesIV a ++ nodesIV b
 | [], _ => rfl
 | x :: r, b => by rw [List.cons_append, nodesIV, nodesIV, nodesIV_append r b]; rfl
theorem nodesIV_len : ∀ a, (nodesIV a).length = a.length
 | [] => rfl
 | _ :: r => by rw [nodesIV, List.length_cons, List.length_cons, nodesIV_len r]
def kidC (d : Nat) : List NJ → FV
 | [] => .im (.sl [] true)
 | a :: r => .own d (a :: r).length
def rowC : List NJ → AObj
 | [] => .none
 | a :: r => .row 27 6 (nodesIV (a :: r))
structure Fl where
 a : Bool
 b : Bool
def nodeF : NJ → Fl → List IV
 | .mk k s m e l ks, ⟨f1, f2⟩ => [iI k, sI s, iI m, iI e, .sl (nodesIV l) f1, .sl (ks.map fun x => [sI x]) f2]
attribute [local go_sem] nodesIV_append nodesIV_len kidC rowC nodeF
theorem syn_term (gk : GK G) (f : Nat) (IH : IHP G f) (E : Env) (hE : EB E) (i : Nat) (r : PR NJ) (h : stepP (runP f) E (.term) i = some r) : ACalls Tryz.prog G 130 (some (parIV E i)) [] (resP E r) := by
 simp only [stepP] at h; refine ACalls.enter Tryz.func130 rfl rfl gk Tryz.ntmps130 fun X F => ?_
 apply Ar F; go_simp; apply Ar F; go_simp; obtain ⟨x1, hx1, h⟩ := bindP_inv h; have c1 := IH f (Nat.le_refl f) E hE _ _ x1 hx1; refine ⟨_, c1, ?_⟩; cases x1 with
 | bad a1 e1 => subst h; go_simp
 | ok n1 j1 =>
  obtain ⟨k1, s1, m1, q1, l1, b1⟩ := n1; dsimp only at h; clear c1 hx1; go_simp; (repeat apply Aq); apply Ab; (repeat apply Aq); refine AW.loopP [0, 2, 3] [1000, 2, 3] (by decide) (fun g s => ∃ (x : NJ) (j : Nat) (fl : Fl), s = mkS [(0, .ptr 1000 0), (2, .ptr 2 0), (3, .ptr 3 0)] [(1000, .box ((parIV E j).map .im)), (2, .box zeroN), (3, .box ((nodeF x fl).map .im))] ∧ g ≤ f ∧ runP g E (.termLoop x) j = some r) (f) ?_ ?_
  ·refine ⟨(.mk k1 s1 m1 q1 l1 b1), j1, ⟨false, false⟩, ?_, Nat.le_refl f, h⟩
   go_simp
  rintro g s ⟨x, j, ⟨f1, f2⟩, rfl, hg, h⟩; rcases g with _ | g
  ·cases h
  obtain ⟨k1, s1, m1, q1, l1, b1⟩ := x; simp only [runP, stepP] at h; (repeat apply Aq); apply Ab; apply Ar F; go_simp; refine ⟨_, syn_peek gk E j, ?_⟩; go_simp; by_cases w3 : (tokAt E j).kind = 3
  ·rw [if_pos w3] at h
   have hj := tok_lt' (E := E) (i := j) (by rw [w3]; decide); have hr := rng ((j : Int) + 1) (by have := hE.len; omega); apply Ar F; go_simp; (repeat apply Aq); apply Ab; apply Ar F; go_simp; (repeat apply Aq); refine At (by go_simp) ?_; apply Ar F; go_simp; (repeat apply Aq); refine Ad F [0, 1, 2, 3, 4, 5] [(0, 3)] mixed (by kernel_rfl) ?_; go_simp; refine ⟨_, syn_text gk _, ?_⟩; go_simp; refine ⟨_, syn_get gk (.mk k1 s1 m1 q1 l1 b1) (strJ (tokAt E j).text), ?_⟩; go_simp; refine ⟨g, by omega, (nodeJ 5 ⟨#[]⟩ (.mk k1 s1 m1 q1 l1 b1) (strJ (tokAt E j).text)), j + 1, ⟨⟨false, false⟩, ?_⟩, by omega, h⟩; go_simp
  rw [if_neg w3] at h; have w3n : ¬ ((tokAt E j).kind : Int) = 3 := by omega
  by_cases wa : isT E j 6 ⟨#[63]⟩
  ·rw [if_pos wa] at h
   have v1 := wa.1; have v2 := wa.2; apply Ar F; go_simp; (repeat apply Aq); apply Ab; apply Ar F; go_simp; (repeat apply Aq); refine Af (by go_simp) ?_; apply Ar F; go_simp; refine ⟨_, syn_take_yes gk E hE.len j 6 (by decide) _ wa, ?_⟩; go_simp; (repeat apply Aq); refine At (by go_simp) ?_; apply Ar F; go_simp; refine ⟨g, by omega, (kidsJ 18 [(.mk k1 s1 m1 q1 l1 b1)]), j + 1, ⟨⟨true, true⟩, ?_⟩, by omega, h⟩; go_simp
  rw [if_neg wa] at h; by_cases wb : isT E j 6 ⟨#[91]⟩
  ·rw [if_pos wb] at h
   have v1 := wb.1; have v2 := wb.2; apply Ar F; go_simp; (repeat apply Aq); apply Ab; apply Ar F; go_simp; (repeat apply Aq); refine Af (by go_simp) ?_; apply Ar F; go_simp; refine ⟨_, syn_take_no gk E j 6  _ wa, ?_⟩; go_simp; (repeat apply Aq); refine Af (by go_simp) ?_; apply Ar F; go_simp; refine ⟨_, (decide_eq_true wb ▸ syn_is gk E (j) 6 _), ?_⟩; go_simp; (repeat apply Aq); refine At (by go_simp) ?_; apply Ar F; go_simp; obtain ⟨x2, hx2, h⟩ := bindP_inv h; have c2 := IH g (by omega) E hE _ _ x2 hx2; refine ⟨_, c2, ?_⟩; cases x2 with
   | bad a2 e2 => subst h; go_simp
   | ok n2 j2 =>
    obtain ⟨k2, s2, m2, q2, l2, b2⟩ := n2; dsimp only at h; clear c2 hx2; go_simp; refine ⟨g, by omega, (.mk k2 s2 m2 q2 l2 b2), j2, ⟨⟨false, false⟩, ?_⟩, by omega, h⟩; go_simp
  rw [if_neg wb] at h; by_cases wc : isT E j 6 ⟨#[46]⟩
  ·rw [if_pos wc] at h
   have v1 := wc.1; have v2 := wc.2; have hj := isT_in (by decide) wc; have hr := rng ((j : Int) + 1) (by have := hE.len; omega); by_cases k5 : (tokAt E (j + 1)).kind = 5
   ·rw [if_pos k5] at h
    have hj1 := tok_lt' (E := E) (i := j + 1) (by rw [k5]; decide); have hj2 : (j : Int) + 1 < (E.l.length : Int) := by omega
    have hj0 : 0 ≤ (j : Int) + 1 := by omega
    have k5t := k5; rw [tok_lt hj1] at k5t; apply Ar F; go_simp; (repeat apply Aq); apply Ab; apply Ar F; go_simp; (repeat apply Aq); refine Af (by go_simp) ?_; apply Ar F; go_simp; refine ⟨_, syn_take_no gk E j 6  _ wa, ?_⟩; go_simp; (repeat apply Aq); refine Af (by go_simp) ?_; apply Ar F; go_simp; refine ⟨_, (decide_eq_false wb ▸ syn_is gk E (j) 6 _), ?_⟩; go_simp; (repeat apply Aq); refine Af (by go_simp) ?_; (repeat apply Aq); refine Ad F [0, 1, 2, 3, 4, 5, 6, 7, 8, 9, 10, 11, 12, 13, 14, 15, 16, 17, 18, 19, 20, 21, 22, 23, 24, 25, 26, 27, 28, 29] [] mixed (by kernel_rfl) ?_; go_simp; (repeat apply Aq); refine At (by go_simp) ?_; apply Ar F; go_simp; (repeat apply Aq); refine Ad F [0, 1, 2, 3, 4] [(0, 2)] mixed (by kernel_rfl) ?_; go_simp; obtain ⟨x3, hx3, h⟩ := bindP_inv h; have c3 := IH g (by omega) E hE _ _ x3 hx3; refine ⟨_, c3, ?_⟩; cases x3 with
    | bad a3 e3 => subst h; go_simp
    | ok n2 j2 =>
     obtain ⟨k2, s2, m2, q2, l2, b2⟩ := n2; dsimp only at h; clear c3 hx3; go_simp; refine ⟨_, syn_get gk (.mk k1 s1 m1 q1 l1 b1) (.mk k2 s2 m2 q2 l2 b2), ?_⟩; go_simp; refine ⟨g, by omega, (nodeJ 5 ⟨#[]⟩ (.mk k1 s1 m1 q1 l1 b1) (.mk k2 s2 m2 q2 l2 b2)), j2, ⟨⟨false, false⟩, ?_⟩, by omega, h⟩; go_simp
   rw [if_neg k5] at h; by_cases hj1 : j + 1 < E.l.length
   ·have hj2 : (j : Int) + 1 < (E.l.length : Int) := by omega
    have hj0 : 0 ≤ (j : Int) + 1 := by omega
    have k5t : ¬ ((E.l[j + 1].kind : Nat) : Int) = 5 := by rw [← tok_lt hj1]; omega
    apply Ar F; go_simp; (repeat apply Aq); apply Ab; apply Ar F; go_simp; (repeat apply Aq); refine Af (by go_simp) ?_; apply Ar F; go_simp; refine ⟨_, syn_take_no gk E j 6  _ wa, ?_⟩; go_simp; (repeat apply Aq); refine Af (by go_simp) ?_; apply Ar F; go_simp; refine ⟨_, (decide_eq_false wb ▸ syn_is gk E (j) 6 _), ?_⟩; go_simp; (repeat apply Aq); refine Af (by go_simp) ?_; (repeat apply Aq); refine Ad F [0, 1, 2, 3, 4, 5, 6, 7, 8, 9, 10, 11, 12, 13, 14, 15, 16, 17, 18, 19, 20, 21, 22, 23, 24, 25, 26, 27, 28, 29] [] mixed (by kernel_rfl) ?_; go_simp; (repeat apply Aq); refine Af (by go_simp) ?_; apply Ar F; go_simp; (repeat apply Aq); refine At (by go_simp) ?_; by_cases wd : isT E (j + 1) 6 ⟨#[91]⟩
    ·rw [if_pos wd] at h
     apply Ar F; go_simp; apply Ar F; go_simp; refine ⟨_, (decide_eq_true wd ▸ syn_is gk E (j + 1) 6 _), ?_⟩; go_simp; (repeat apply Aq); refine Af (by go_simp) ?_; apply As; go_simp; apply Ar F; go_simp; obtain ⟨x4, hx4, h⟩ := bindP_inv h; have c4 := IH g (by omega) E hE _ _ x4 hx4; refine ⟨_, c4, ?_⟩; cases x4 with
     | bad a4 e4 => subst h; go_simp
     | ok n2 j2 =>
      obtain ⟨k2, s2, m2, q2, l2, b2⟩ := n2; dsimp only at h; clear c4 hx4; go_simp; refine ⟨g, by omega, (.mk k2 s2 m2 q2 l2 b2), j2, ⟨⟨false, false⟩, ?_⟩, by omega, h⟩; go_simp
    rw [if_neg wd] at h; obtain rfl := Option.some.inj h; apply Ar F; go_simp; apply Ar F; go_simp; refine ⟨_, (decide_eq_false wd ▸ syn_is gk E (j + 1) 6 _), ?_⟩; go_simp; (repeat apply Aq); refine At (by go_simp) ?_; apply Ar F; go_simp; refine ⟨_, syn_fail gk E hE (j + 1) 60, ?_⟩; go_simp
   have hj2 : ¬ (j : Int) + 1 < (E.l.length : Int) := by omega
   have wd : ¬ isT E (j + 1) 6 ⟨#[91]⟩ := fun v => hj1 (isT_in (by decide) v)
   rw [if_neg wd] at h; obtain rfl := Option.some.inj h; apply Ar F; go_simp; (repeat apply Aq); apply Ab; apply Ar F; go_simp; (repeat apply Aq); refine Af (by go_simp) ?_; apply Ar F; go_simp; refine ⟨_, syn_take_no gk E j 6  _ wa, ?_⟩; go_simp; (repeat apply Aq); refine Af (by go_simp) ?_; apply Ar F; go_simp; refine ⟨_, (decide_eq_false wb ▸ syn_is gk E (j) 6 _), ?_⟩; go_simp; (repeat apply Aq); refine Af (by go_simp) ?_; (repeat apply Aq); refine Ad F [0, 1, 2, 3, 4, 5, 6, 7, 8, 9, 10, 11, 12, 13, 14, 15, 16, 17, 18, 19, 20, 21, 22, 23, 24, 25, 26, 27, 28, 29] [] mixed (by kernel_rfl) ?_; go_simp; (repeat apply Aq); refine Af (by go_simp) ?_; apply Ar F; go_simp; (repeat apply Aq); refine At (by go_simp) ?_; apply Ar F; go_simp; apply Ar F; go_simp; refine ⟨_, (decide_eq_false wd ▸ syn_is gk E (j + 1) 6 _), ?_⟩; go_simp; (repeat apply Aq); refine At (by go_simp) ?_; apply Ar F; go_simp; refine ⟨_, syn_fail gk E hE (j + 1) 60, ?_⟩; go_simp
  rw [if_neg wc] at h; by_cases v6 : (tokAt E j).kind = 6
  ·have v2 : ¬ (tokAt E j).text = ⟨#[46]⟩ := fun v => wc ⟨v6, v⟩
   obtain rfl := Option.some.inj h; apply Ar F; go_simp; (repeat apply Aq); apply Ab; apply Ar F; go_simp; (repeat apply Aq); refine Af (by go_simp) ?_; apply Ar F; go_simp; refine ⟨_, syn_take_no gk E j 6  _ wa, ?_⟩; go_simp; (repeat apply Aq); refine Af (by go_simp) ?_; apply Ar F; go_simp; refine ⟨_, (decide_eq_false wb ▸ syn_is gk E (j) 6 _), ?_⟩; go_simp; (repeat apply Aq); refine Af (by go_simp) ?_; (repeat apply Aq); refine Ad F [0, 1, 2, 3, 4, 5, 6, 7, 8, 9, 10, 11, 12, 13, 14, 15, 16, 17, 18, 19, 20, 21, 22, 23, 24, 25, 26, 27, 28, 29] [] mixed (by kernel_rfl) ?_; go_simp; (repeat apply Aq); refine Af (by go_simp) ?_; apply Ar F; go_simp; (repeat apply Aq); refine Af (by go_simp) ?_; apply Ar F; go_simp; apply Au; go_simp
  have v6n : ¬ ((tokAt E j).kind : Int) = 6 := by omega
  obtain rfl := Option.some.inj h; apply Ar F; go_simp; (repeat apply Aq); apply Ab; apply Ar F; go_simp; (repeat apply Aq); refine Af (by go_simp) ?_; apply Ar F; go_simp; refine ⟨_, syn_take_no gk E j 6  _ wa, ?_⟩; go_simp; (repeat apply Aq); refine Af (by go_simp) ?_; apply Ar F; go_simp; refine ⟨_, (decide_eq_false wb ▸ syn_is gk E (j) 6 _), ?_⟩; go_simp; (repeat apply Aq); refine Af (by go_simp) ?_; (repeat apply Aq); refine Ad F [0, 1, 2, 3, 4, 5, 6, 7, 8, 9, 10, 11, 12, 13, 14, 15, 16, 17, 18, 19, 20, 21, 22, 23, 24, 25, 26, 27, 28, 29] [] mixed (by kernel_rfl) ?_; go_simp; (repeat apply Aq); refine Af (by go_simp) ?_; apply Ar F; go_simp; (repeat apply Aq); refine Af (by go_simp) ?_; apply Ar F; go_simp; apply Au; go_simp
def PairP (o : Option (PR NJ)) : Prop := ∀ n j, o = some (.ok n j) → ∃ k v, n = kidsJ 0 [k, v]
theorem PairP.fail {E : Env} {i e : Nat} : PairP (failP E i e) := fun n j h => by cases h
theorem PairP.ok {k v : NJ} {i : Nat} : PairP (okP (kidsJ 0 [k, v]) i) := fun n j h => by cases h; exact ⟨_, _, rfl⟩
theorem PairP.bind {α : Type} {x : Option (PR α)} {f : α → Nat → Option (PR NJ)} (hf : ∀ a j, PairP (f a j)) : PairP (bindP x f) := by
 cases x with
 | none => intro a j h; cases h
 | some y =>
  cases y with
  | bad a e => intro a j h; cases h
  | ok n j => exact hf n j
theorem PairP.want {E : Env} {i k : Nat} {s : ByteArray} {f : Nat → Option (PR NJ)} (hf : ∀ j, PairP (f j)) : PairP (wantP E i k s f) := by
 unfold wantP; split
 ·exact hf _
 exact PairP.fail
theorem PairP.ite {c : Prop} [Decidable c] {x y : Option (PR NJ)} (hx : PairP x) (hy : PairP y) : PairP (if c then x else y) := by
 split
 ·exact hx
 exact hy
theorem entry_pair {f : Nat} {E : Env} {i : Nat} : PairP (runP f E .entry i) := by
 cases f with
 | zero => intro n j h; cases h
 | succ f =>
  simp only [runP, stepP]; have hv : ∀ k j, PairP (wantP E j 6 ⟨#[58]⟩ fun j => bindP (runP f E (.binary 2) j) fun v j => okP (kidsJ 0 [k, v]) j) := fun k j => PairP.want fun _ => PairP.bind fun _ _ => PairP.ok
  have ha : ∀ k j, PairP (if isT E j 6 ⟨#[58]⟩ then (wantP E j 6 ⟨#[58]⟩ fun j => bindP (runP f E (.binary 2) j) fun v j => okP (kidsJ 0 [k, v]) j) else okP (kidsJ 0 [k, nodeJ 5 ⟨#[]⟩ selfJ k]) j) := fun k j => PairP.ite (hv k j) PairP.ok
  refine PairP.ite PairP.ok (PairP.ite (ha _ _) (PairP.ite (PairP.bind fun _ _ => ha _ _) (PairP.ite (PairP.bind fun _ _ => PairP.want fun _ => hv _ _) PairP.fail)))
theorem entry_in {f : Nat} {E : Env} {i : Nat} {n : NJ} {j : Nat} (h : runP f E .entry i = some (.ok n j)) : i < E.l.length := by
 rcases Nat.lt_or_ge i E.l.length with h1 | h1
 ·exact h1
 exfalso; have h0 : (tokAt E i).kind = 0 := by rw [tok_ge (by omega)]; rfl
 cases f with
 | zero => cases h
 | succ f =>
  simp only [runP, stepP] at h; rw [if_neg (by omega), if_neg (by omega), if_neg (by omega), if_neg (fun hT => by have := hT.1; omega)] at h; cases h
theorem syn_object (gk : GK G) (f : Nat) (IH : IHP G f) (E : Env) (hE : EB E) (i : Nat) (r : PR NJ) (h : stepP (runP f) E (.object) i = some r) : ACalls Tryz.prog G 164 (some (parIV E i)) [] (resP E r) := by
 simp only [stepP] at h; refine ACalls.enter Tryz.func164 rfl rfl gk Tryz.ntmps164 fun X F => ?_
 by_cases w1 : isT E (i) 6 ⟨#[125]⟩
 ·rw [if_pos w1] at h
  apply Ar F; go_simp; apply Ar F; go_simp; apply Ar F; go_simp; refine ⟨_, syn_take_yes gk E hE.len (i) 6 (by decide) _ w1, ?_⟩; go_simp; (repeat apply Aq); refine At (by go_simp) ?_; obtain rfl := Option.some.inj h; apply Ar F; go_simp; apply Au; go_simp
 rw [if_neg w1] at h; apply Ar F; go_simp; apply Ar F; go_simp; apply Ar F; go_simp; refine ⟨_, syn_take_no gk E (i) 6 _ w1, ?_⟩; go_simp; (repeat apply Aq); refine Af (by go_simp) ?_; apply As; go_simp; (repeat apply Aq); apply Ab; (repeat apply Aq); refine AW.loopP [0, 2, 3] [1000, 2, 3, 20] (by decide) (fun g s => ∃ (kids : List NJ) (j : Nat), s = mkS [(0, .ptr 1000 0), (2, .ptr 2 0), (3, .ptr 3 0)] [(1000, .box ((parIV E j).map .im)), (2, .box zeroN), (3, .box [.im (iI 16), .im (sI ⟨#[]⟩), .im (iI 0), .im (iI 0), kidC 20 kids, .im (.sl [] true)]), (20, rowC kids)] ∧ g ≤ f ∧ kids.length ≤ 2 * j ∧ runP g E (.objLoop kids) j = some r) (f) ?_ ?_
 ·refine ⟨[], i, ?_, Nat.le_refl f, Nat.zero_le _, h⟩
  go_simp
 rintro g s ⟨kids, j, rfl, hg, hk, h⟩; rcases g with _ | g
 ·cases h
 simp only [runP, stepP] at h; have hlen := hE.len; (repeat apply Aq); apply Ab; rcases kids with _ | ⟨ka, kids⟩
 ·apply Ar F
  go_simp; obtain ⟨x2, hx2, h⟩ := bindP_inv h; have c2 := IH g (by omega) E hE _ _ x2 hx2; refine ⟨_, c2, ?_⟩; cases x2 with
  | bad a2 e2 => subst h; go_simp
  | ok n2 j2 =>
   have hj := Nat.le_of_lt (entry_in hx2); try (have hk2 : kids.length ≤ 999999997 := by simp only [List.length_cons] at hk; omega)
   have hb := bd_all g E .entry j hj _ _ hx2; obtain ⟨⟨k1, s1, m1, q1, l1, b1⟩, ⟨k2, s2, m2, q2, l2, b2⟩, rfl⟩ := entry_pair _ _ hx2; simp only [kidsJ, NJ.kids] at h; clear c2 hx2; go_simp; by_cases wq : isT E (j2) 6 ⟨#[44]⟩
   ·rw [if_pos wq] at h
    apply Ar F; go_simp; apply Ar F; go_simp; refine ⟨_, syn_take_yes gk E hE.len (j2) 6 (by decide) _ wq, ?_⟩; go_simp; (repeat apply Aq); refine Af (by go_simp) ?_; apply As; go_simp; have hj2 := isT_in (by decide) wq; refine ⟨g, by omega, _, j2 + 1, ?_, by omega, by simp only [List.length_append, List.length_cons, List.length_nil] at hk ⊢; omega, h⟩; go_simp
   rw [if_neg wq] at h; apply Ar F; go_simp; apply Ar F; go_simp; refine ⟨_, syn_take_no gk E (j2) 6 _ wq, ?_⟩; go_simp; (repeat apply Aq); refine At (by go_simp) ?_; apply Ae; go_simp; by_cases w3 : isT E (j2) 6 ⟨#[125]⟩
   ·rw [wantP_y w3] at h
    apply Ar F; go_simp; refine ⟨_, syn_want_yes gk E hE (j2) 6 (by decide) _ w3, ?_⟩; go_simp; obtain rfl := Option.some.inj h; apply Ar F; go_simp; apply Au; go_simp
   rw [wantP_n w3] at h; obtain rfl := Option.some.inj h; apply Ar F; go_simp; refine ⟨_, syn_want_no gk E hE (j2) 6 _ w3, ?_⟩; go_simp
 apply Ar F; go_simp; obtain ⟨x4, hx4, h⟩ := bindP_inv h; have c4 := IH g (by omega) E hE _ _ x4 hx4; refine ⟨_, c4, ?_⟩; cases x4 with
 | bad a4 e4 => subst h; go_simp
 | ok n2 j2 =>
  have hj := Nat.le_of_lt (entry_in hx4); try (have hk2 : kids.length ≤ 999999997 := by simp only [List.length_cons] at hk; omega)
  have hb := bd_all g E .entry j hj _ _ hx4; obtain ⟨⟨k1, s1, m1, q1, l1, b1⟩, ⟨k2, s2, m2, q2, l2, b2⟩, rfl⟩ := entry_pair _ _ hx4; simp only [kidsJ, NJ.kids] at h; clear c4 hx4; go_simp; by_cases wq : isT E (j2) 6 ⟨#[44]⟩
  ·rw [if_pos wq] at h
   apply Ar F; go_simp; apply Ar F; go_simp; refine ⟨_, syn_take_yes gk E hE.len (j2) 6 (by decide) _ wq, ?_⟩; go_simp; (repeat apply Aq); refine Af (by go_simp) ?_; apply As; go_simp; have hj2 := isT_in (by decide) wq; refine ⟨g, by omega, _, j2 + 1, ?_, by omega, by simp only [List.length_append, List.length_cons, List.length_nil] at hk ⊢; omega, h⟩; go_simp
  rw [if_neg wq] at h; apply Ar F; go_simp; apply Ar F; go_simp; refine ⟨_, syn_take_no gk E (j2) 6 _ wq, ?_⟩; go_simp; (repeat apply Aq); refine At (by go_simp) ?_; apply Ae; go_simp; by_cases w5 : isT E (j2) 6 ⟨#[125]⟩
  ·rw [wantP_y w5] at h
   apply Ar F; go_simp; refine ⟨_, syn_want_yes gk E hE (j2) 6 (by decide) _ w5, ?_⟩; go_simp; obtain rfl := Option.some.inj h; apply Ar F; go_simp; apply Au; go_simp
  rw [wantP_n w5] at h; obtain rfl := Option.some.inj h; apply Ar F; go_simp; refine ⟨_, syn_want_no gk E hE (j2) 6 _ w5, ?_⟩; go_simp
end Go.Proofs.YtakncilicoefdaaGreatDoor
