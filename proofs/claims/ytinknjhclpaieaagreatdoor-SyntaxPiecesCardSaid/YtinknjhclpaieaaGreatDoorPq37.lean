/- Lemmas and contracts for the laws SyntaxPieces, part 37 of 48: R10E, R10W. Conditions: those that each lemma names. -/
import Derived.Test.YtinknjhclpaieaaGreatDoorPq35
set_option maxRecDepth 100000
set_option maxHeartbeats 16000000
namespace Go.Proofs.YtinknjhclpaieaaGreatDoor
open Go Go.RowKit Go.Proofs Th
set_option maxRecDepth 8000
attribute [local go_sem] aops aopsD stepA chkD disj aguard isWant aop aval abuil acall acallP acallR argsIV valOf aput startS mkS numb look upd toIV allIV zeroFV aload setSeg afill aelems cellsOf toSl toVal valsOf aidx abin ainR FV.ok IV.one IV.er IV.erA IV.er1 iI sI bI nodeIV nodesIV tokIV parIV faultV resP lift AThen ABlock AEnd resL resV rload rcOf imsOf oneV nodeJ kidsJ strJ knownJ selfJ noNJ noTf foot owns pruneS filtF filtO Value.oneCell'
attribute [local go_sem] ti_node ti_tok ti_par ti_fault ti_nodes ti_toks ti_strs ti_ints ti_str ti_int ti_num ti_errno
attribute [local go_sem] rdrIV ti_rdr St.next sel
attribute [local go_sem] resR zeroN nodesIV_append nodesIV_len kidC rowC nodeF
attribute [local go_sem] txtA_nil txtB_nil txtA_a txtA_b txtB_a txtB_b txtC_nil txtC_a txtC_b List.map_append List.map_cons List.map_nil List.length_map
variable {G : World → CS → Prop}
inductive W3 where
  | a
  | b
  | c
def kidC3 (d e f : Nat) : W3 → List NJ → FV
  | _, [] => .im (.sl [] true)
  | .a, x :: r => .own d (x :: r).length
  | .b, x :: r => .own e (x :: r).length
  | .c, x :: r => .own f (x :: r).length
def rowX (k : W3) : W3 → List NJ → AObj
  | w, x :: r => match k, w with
    | .a, .a | .b, .b | .c, .c => .row 28 6 (nodesIV (x :: r))
    | _, _ => .none
  | _, [] => .none
theorem kidC3_nil (d e f : Nat) (w : W3) : kidC3 d e f w [] = .im (.sl [] true) := by cases w <;> rfl
theorem rowX_nil (k w : W3) : rowX k w [] = .none := by cases w <;> rfl
theorem kidC3_a (d e f : Nat) (x : NJ) (r : List NJ) : kidC3 d e f .a (x :: r) = .own d (x :: r).length := rfl
theorem rowX_aa (x : NJ) (r : List NJ) : rowX .a .a (x :: r) = .row 28 6 (nodesIV (x :: r)) := rfl
theorem rowX_ba (x : NJ) (r : List NJ) : rowX .b .a (x :: r) = .none := rfl
theorem rowX_ca (x : NJ) (r : List NJ) : rowX .c .a (x :: r) = .none := rfl
theorem kidC3_b (d e f : Nat) (x : NJ) (r : List NJ) : kidC3 d e f .b (x :: r) = .own e (x :: r).length := rfl
theorem rowX_ab (x : NJ) (r : List NJ) : rowX .a .b (x :: r) = .none := rfl
theorem rowX_bb (x : NJ) (r : List NJ) : rowX .b .b (x :: r) = .row 28 6 (nodesIV (x :: r)) := rfl
theorem rowX_cb (x : NJ) (r : List NJ) : rowX .c .b (x :: r) = .none := rfl
theorem kidC3_c (d e f : Nat) (x : NJ) (r : List NJ) : kidC3 d e f .c (x :: r) = .own f (x :: r).length := rfl
theorem rowX_ac (x : NJ) (r : List NJ) : rowX .a .c (x :: r) = .none := rfl
theorem rowX_bc (x : NJ) (r : List NJ) : rowX .b .c (x :: r) = .none := rfl
theorem rowX_cc (x : NJ) (r : List NJ) : rowX .c .c (x :: r) = .row 28 6 (nodesIV (x :: r)) := rfl
attribute [local go_sem] kidC3_nil rowX_nil kidC3_a kidC3_b kidC3_c rowX_aa rowX_ab rowX_ac rowX_ba rowX_bb rowX_bc rowX_ca rowX_cb rowX_cc
theorem r_object (gk : GK G) (f : Nat) (IH : IHR G f) (E : Env) (hE : EB E) (s : St) (hf : f ≤ 100000000) (r : NJ × St) (h : stepR (runR f) E (.object) s = some r) : ACalls Tryz.prog G 134 (some (rdrIV E s)) [] (resR E r) := by
  simp only [stepR] at h; refine ACalls.enter Tryz.func134 rfl rfl gk Tryz.ntmps134 fun X F => ?_
  by_cases w1 : hasR E (s) ⟨#[125]⟩
  · rw [if_pos w1] at h
    apply Ar F; go_simp; apply Ar F; go_simp; apply Ar F; go_simp; refine ⟨_, r_has_yes gk E (s) hE.len ⟨#[125]⟩ w1, ?_⟩; go_simp; (repeat apply Aq); refine At (by go_simp) ?_; obtain rfl := Oi h; apply Ar F; go_simp; apply Au; go_simp
  rw [if_neg w1] at h; apply Ar F; go_simp; apply Ar F; go_simp; apply Ar F; go_simp; refine ⟨_, r_has_no gk E (s) ⟨#[125]⟩ w1, ?_⟩; go_simp; (repeat apply Aq); refine Af (by go_simp) ?_; apply As; go_simp; apply Ar F; go_simp; (repeat apply Aq); apply Ab; (repeat apply Aq); refine AW.loopP [0, 2, 3, 4] [1000, 2, 3, 35, 93, 103] (by decide) (fun g st => ∃ (kids : List NJ) (s1 : St) (w : W3) (fl : Fl), st = mkS [(0, .ptr 1000 0), (2, .ptr 2 0), (3, .ptr 3 0), (4, .im (bI fl.a))] [(1000, .box ((rdrIV E s1).map .im)), (2, .box zeroN), (3, .box [.im (iI 16), .im (sI ⟨#[]⟩), .im (iI 0), .im (iI 0), kidC3 35 93 103 w kids, .im (.sl [] true)]), (35, rowX .a w kids), (93, rowX .b w kids), (103, rowX .c w kids)] ∧ (fl.a = true → kids.length + 2 * g ≤ 2 * f ∧ runR g E (.objLoop kids) s1 = some r) ∧ (fl.a = false → r = (kidsJ 16 kids, wantR E s1 ⟨#[125]⟩))) (f) ?_ ?_
  · refine ⟨[], s, .a, ⟨true, false⟩, ?_, fun _ => ⟨by simp only [List.length_nil]; omega, h⟩, fun e => (by cases e)⟩
    go_simp
  rintro g st ⟨kids, s1, w, ⟨bb, bx⟩, rfl, hT, hF⟩; dsimp only at hT hF; cases bb
  · rcases kids with _ | ⟨ka, kids⟩
    rotate_left
    rcases w with _ | _ | _
    all_goals
      have h := hF rfl; clear hT hF; apply Ar F; go_simp; (repeat apply Aq); refine Af (by go_simp) ?_; apply Ae; go_simp; have cw2 := r_want gk E hE (s1) ⟨#[125]⟩; generalize wantR E (s1) ⟨#[125]⟩ = u1 at h cw2; apply Ar F; go_simp; refine ⟨_, cw2, ?_⟩; go_simp; subst h; apply Ar F; go_simp; apply Au; go_simp
  rcases kids with _ | ⟨ka, kids⟩
  rotate_left
  rcases w with _ | _ | _
  all_goals
    obtain ⟨hk, h⟩ := hT rfl; clear hT hF; rcases g with _ | g
    · cases h
    simp only [runR, stepR] at h; try (have hk2 : kids.length ≤ 999999997 := by simp only [lB] at hk; omega)
    try (have hk3 : kids.length ≤ 999999998 := by simp only [lB] at hk; omega)
    by_cases w3 : s1.err ≠ 0
    · have vw3 : ¬ ((s1.err : Nat) : Int) = 0 := by omega
      rw [if_pos w3] at h; apply Ar F; go_simp; (repeat apply Aq); refine Af (by go_simp) ?_; apply Ae; go_simp; have cw4 := r_want gk E hE (s1) ⟨#[125]⟩; generalize wantR E (s1) ⟨#[125]⟩ = u1 at h cw4; apply Ar F; go_simp; refine ⟨_, cw4, ?_⟩; go_simp; obtain rfl := Oi h; apply Ar F; go_simp; apply Au; go_simp
    rw [if_neg w3] at h; obtain ⟨i1, e1, a1⟩ := s1; obtain rfl : e1 = 0 := Dn w3; try dsimp only at h
    apply Ar F; go_simp; (repeat apply Aq); refine At (by go_simp) ?_; apply As; go_simp; (repeat apply Aq); apply Ab; apply Ar F; go_simp; refine ⟨_, r_kind gk E (⟨i1, 0, a1⟩), ?_⟩; go_simp; by_cases wa : (tokAt E (i1)).kind = 2
    · rw [if_pos wa] at h
      apply Ar F; go_simp; (repeat apply Aq); refine At (by go_simp) ?_; have cn5 := r_named gk E hE (⟨i1, 0, a1⟩) 2 (by decide); have hn5 := named_sz hE (⟨i1, 0, a1⟩) 2; generalize namedR E (⟨i1, 0, a1⟩) 2 = pn5 at h cn5 hn5; obtain ⟨nm, s6⟩ := pn5; dsimp only at h cn5 hn5; apply Ar F; go_simp; refine ⟨_, cn5, ?_⟩; go_simp; (repeat apply Aq); refine Ad F [0, 1, 2, 4, 5, 3, 6, 7, 8, 9] [(1, 3), (5, 3)] mixed (by kernel_rfl) ?_; go_simp; refine ⟨_, r_str gk nm, ?_⟩; go_simp; apply Ae; go_simp; by_cases wq : hasR E (s6) ⟨#[44]⟩
      · rw [if_pos wq] at h
        apply Ar F; go_simp; refine ⟨_, r_has_yes gk E (s6) hE.len ⟨#[44]⟩ wq, ?_⟩; go_simp; first
          | (refine ⟨g, by omega, _, St.next (s6), .a, ⟨true, false⟩, ?_, fun _ => ⟨by simp only [lA, lB, lC] at hk ⊢; omega, h⟩, fun e => (by cases e)⟩
             go_simp; done)
          | (refine ⟨g, by omega, _, St.next (s6), .b, ⟨true, false⟩, ?_, fun _ => ⟨by simp only [lA, lB, lC] at hk ⊢; omega, h⟩, fun e => (by cases e)⟩
             go_simp; done)
          | (refine ⟨g, by omega, _, St.next (s6), .c, ⟨true, false⟩, ?_, fun _ => ⟨by simp only [lA, lB, lC] at hk ⊢; omega, h⟩, fun e => (by cases e)⟩
             go_simp; done)
      rw [if_neg wq] at h; apply Ar F; go_simp; refine ⟨_, r_has_no gk E (s6) ⟨#[44]⟩ wq, ?_⟩; go_simp; have h := congrArg some (Oi h); first
        | (refine ⟨g, by omega, _, s6, .a, ⟨false, false⟩, ?_, fun e => (by cases e), fun _ => (Oi h).symm⟩
           go_simp; done)
        | (refine ⟨g, by omega, _, s6, .b, ⟨false, false⟩, ?_, fun e => (by cases e), fun _ => (Oi h).symm⟩
           go_simp; done)
        | (refine ⟨g, by omega, _, s6, .c, ⟨false, false⟩, ?_, fun e => (by cases e), fun _ => (Oi h).symm⟩
           go_simp; done)
    rw [if_neg wa] at h; have vwa : ¬ ((tokAt E (i1)).kind : Int) = 2 := by omega
    apply Ar F; go_simp; (repeat apply Aq); refine Af (by go_simp) ?_; apply As; go_simp; by_cases wb : (tokAt E (i1)).kind = 1
    · rw [if_pos wb] at h
      have hi := tok_lt' (E := E) (i := i1) (by rw [wb]; decide); have hr := rng ((i1 : Int) + 1) (by have := hE.len; omega); rw [tok_lt hi] at h; apply Ar F; go_simp; apply Ar F; go_simp; (repeat apply Aq); refine At (by go_simp) ?_; (repeat apply Aq); refine Ad F [0, 1, 2, 3, 4, 5, 6, 7, 8, 9, 10, 11, 12] [] mixed (by kernel_rfl) ?_; go_simp; refine ⟨_, r_str gk E.l[i1].text, ?_⟩; go_simp; by_cases wi : isR E (St.next ⟨i1, 0, a1⟩) ⟨#[58]⟩
      · apply Ar F
        go_simp; apply Ar F; go_simp; refine ⟨_, (decide_eq_true wi ▸ r_is gk E (St.next ⟨i1, 0, a1⟩) ⟨#[58]⟩), ?_⟩; go_simp; rw [if_neg (fun hh => hh.2 wi)] at h; (repeat apply Aq); refine Af (by go_simp) ?_; apply As; go_simp; have cw6 := r_want gk E hE (St.next ⟨i1, 0, a1⟩) ⟨#[58]⟩; generalize wantR E (St.next ⟨i1, 0, a1⟩) ⟨#[58]⟩ = u1 at h cw6; apply Ar F; go_simp; refine ⟨_, cw6, ?_⟩; go_simp; (repeat apply Aq); refine Ad F [0, 1, 2, 3, 4, 5, 6, 7, 8] [(1, 4), (2, 4)] mixed (by kernel_rfl) ?_; go_simp; obtain ⟨n4, s4, hx4, h⟩ := bindR_some h; have c4 := IH g (by omega) E hE _ _ (n4, s4) hx4; refine ⟨_, c4, ?_⟩; obtain ⟨k4, t4, m4, q4, l4, b4⟩ := n4; try dsimp only at h
        clear c4; clear hx4; go_simp; by_cases wq : hasR E (s4) ⟨#[44]⟩
        · rw [if_pos wq] at h
          apply Ar F; go_simp; refine ⟨_, r_has_yes gk E (s4) hE.len ⟨#[44]⟩ wq, ?_⟩; go_simp; first
            | (refine ⟨g, by omega, _, St.next (s4), .a, ⟨true, false⟩, ?_, fun _ => ⟨by simp only [lA, lB, lC] at hk ⊢; omega, h⟩, fun e => (by cases e)⟩
               go_simp; done)
            | (refine ⟨g, by omega, _, St.next (s4), .b, ⟨true, false⟩, ?_, fun _ => ⟨by simp only [lA, lB, lC] at hk ⊢; omega, h⟩, fun e => (by cases e)⟩
               go_simp; done)
            | (refine ⟨g, by omega, _, St.next (s4), .c, ⟨true, false⟩, ?_, fun _ => ⟨by simp only [lA, lB, lC] at hk ⊢; omega, h⟩, fun e => (by cases e)⟩
               go_simp; done)
        rw [if_neg wq] at h; apply Ar F; go_simp; refine ⟨_, r_has_no gk E (s4) ⟨#[44]⟩ wq, ?_⟩; go_simp; have h := congrArg some (Oi h); first
          | (refine ⟨g, by omega, _, s4, .a, ⟨false, false⟩, ?_, fun e => (by cases e), fun _ => (Oi h).symm⟩
             go_simp; done)
          | (refine ⟨g, by omega, _, s4, .b, ⟨false, false⟩, ?_, fun e => (by cases e), fun _ => (Oi h).symm⟩
             go_simp; done)
          | (refine ⟨g, by omega, _, s4, .c, ⟨false, false⟩, ?_, fun e => (by cases e), fun _ => (Oi h).symm⟩
             go_simp; done)
      apply Ar F; go_simp; apply Ar F; go_simp; refine ⟨_, (decide_eq_false wi ▸ r_is gk E (St.next ⟨i1, 0, a1⟩) ⟨#[58]⟩), ?_⟩; go_simp; rw [if_pos ⟨rfl, wi⟩] at h; (repeat apply Aq); refine At (by go_simp) ?_; (repeat apply Aq); refine Ad F [0, 1, 2, 3, 4, 5, 6, 7, 8, 9] [(1, 5), (2, 5)] mixed (by kernel_rfl) ?_; go_simp; refine ⟨_, r_node gk 5 ⟨#[]⟩ selfJ (strJ E.l[i1].text), ?_⟩; go_simp; apply Ae; go_simp; by_cases wq : hasR E (St.next ⟨i1, 0, a1⟩) ⟨#[44]⟩
      · rw [if_pos wq] at h
        apply Ar F; go_simp; refine ⟨_, r_has_yes gk E (St.next ⟨i1, 0, a1⟩) hE.len ⟨#[44]⟩ wq, ?_⟩; go_simp; first
          | (refine ⟨g, by omega, _, St.next (St.next ⟨i1, 0, a1⟩), .a, ⟨true, false⟩, ?_, fun _ => ⟨by simp only [lA, lB, lC] at hk ⊢; omega, h⟩, fun e => (by cases e)⟩
             go_simp; done)
          | (refine ⟨g, by omega, _, St.next (St.next ⟨i1, 0, a1⟩), .b, ⟨true, false⟩, ?_, fun _ => ⟨by simp only [lA, lB, lC] at hk ⊢; omega, h⟩, fun e => (by cases e)⟩
             go_simp; done)
          | (refine ⟨g, by omega, _, St.next (St.next ⟨i1, 0, a1⟩), .c, ⟨true, false⟩, ?_, fun _ => ⟨by simp only [lA, lB, lC] at hk ⊢; omega, h⟩, fun e => (by cases e)⟩
             go_simp; done)
      rw [if_neg wq] at h; apply Ar F; go_simp; refine ⟨_, r_has_no gk E (St.next ⟨i1, 0, a1⟩) ⟨#[44]⟩ wq, ?_⟩; go_simp; have h := congrArg some (Oi h); first
        | (refine ⟨g, by omega, _, St.next ⟨i1, 0, a1⟩, .a, ⟨false, false⟩, ?_, fun e => (by cases e), fun _ => (Oi h).symm⟩
           go_simp; done)
        | (refine ⟨g, by omega, _, St.next ⟨i1, 0, a1⟩, .b, ⟨false, false⟩, ?_, fun e => (by cases e), fun _ => (Oi h).symm⟩
           go_simp; done)
        | (refine ⟨g, by omega, _, St.next ⟨i1, 0, a1⟩, .c, ⟨false, false⟩, ?_, fun e => (by cases e), fun _ => (Oi h).symm⟩
           go_simp; done)
    rw [if_neg wb] at h; have vwb : ¬ ((tokAt E (i1)).kind : Int) = 1 := by omega
    apply Ar F; go_simp; apply Ar F; go_simp; (repeat apply Aq); refine Af (by go_simp) ?_; by_cases wc : (tokAt E (i1)).kind = 5
    · rw [if_pos wc] at h
      apply Ar F; go_simp; (repeat apply Aq); refine At (by go_simp) ?_; apply Ar F; go_simp; obtain ⟨n5, s5, hx5, h⟩ := bindR_some h; have c5 := (IH g (by omega) E hE _ _ (n5, s5) hx5) wc; refine ⟨_, c5, ?_⟩; obtain ⟨k5, t5, m5, q5, l5, b5⟩ := n5; try dsimp only at h
      clear c5; clear hx5; go_simp; by_cases wd : s5.err = 0
      · obtain ⟨i5, e5, a5⟩ := s5
        dsimp only at wd; subst wd; try dsimp only at h
        by_cases wi : isR E (⟨i5, 0, a5⟩) ⟨#[58]⟩
        · apply Ar F
          go_simp; refine ⟨_, (decide_eq_true wi ▸ r_is gk E (⟨i5, 0, a5⟩) ⟨#[58]⟩), ?_⟩; go_simp; rw [if_neg (fun hh => hh.2 wi)] at h; (repeat apply Aq); refine Af (by go_simp) ?_; apply As; go_simp; have cw7 := r_want gk E hE (⟨i5, 0, a5⟩) ⟨#[58]⟩; generalize wantR E (⟨i5, 0, a5⟩) ⟨#[58]⟩ = u1 at h cw7; apply Ar F; go_simp; refine ⟨_, cw7, ?_⟩; go_simp; (repeat apply Aq); refine Ad F [0, 1, 2, 3, 4, 5, 6, 7, 8] [(1, 4), (2, 4)] mixed (by kernel_rfl) ?_; go_simp; obtain ⟨n4, s4, hx4, h⟩ := bindR_some h; have c4 := IH g (by omega) E hE _ _ (n4, s4) hx4; refine ⟨_, c4, ?_⟩; obtain ⟨k4, t4, m4, q4, l4, b4⟩ := n4; try dsimp only at h
          clear c4; clear hx4; go_simp; by_cases wq : hasR E (s4) ⟨#[44]⟩
          · rw [if_pos wq] at h
            apply Ar F; go_simp; refine ⟨_, r_has_yes gk E (s4) hE.len ⟨#[44]⟩ wq, ?_⟩; go_simp; first
              | (refine ⟨g, by omega, _, St.next (s4), .a, ⟨true, false⟩, ?_, fun _ => ⟨by simp only [lA, lB, lC] at hk ⊢; omega, h⟩, fun e => (by cases e)⟩
                 go_simp; done)
              | (refine ⟨g, by omega, _, St.next (s4), .b, ⟨true, false⟩, ?_, fun _ => ⟨by simp only [lA, lB, lC] at hk ⊢; omega, h⟩, fun e => (by cases e)⟩
                 go_simp; done)
              | (refine ⟨g, by omega, _, St.next (s4), .c, ⟨true, false⟩, ?_, fun _ => ⟨by simp only [lA, lB, lC] at hk ⊢; omega, h⟩, fun e => (by cases e)⟩
                 go_simp; done)
          rw [if_neg wq] at h; apply Ar F; go_simp; refine ⟨_, r_has_no gk E (s4) ⟨#[44]⟩ wq, ?_⟩; go_simp; have h := congrArg some (Oi h); first
            | (refine ⟨g, by omega, _, s4, .a, ⟨false, false⟩, ?_, fun e => (by cases e), fun _ => (Oi h).symm⟩
               go_simp; done)
            | (refine ⟨g, by omega, _, s4, .b, ⟨false, false⟩, ?_, fun e => (by cases e), fun _ => (Oi h).symm⟩
               go_simp; done)
            | (refine ⟨g, by omega, _, s4, .c, ⟨false, false⟩, ?_, fun e => (by cases e), fun _ => (Oi h).symm⟩
               go_simp; done)
        apply Ar F; go_simp; refine ⟨_, (decide_eq_false wi ▸ r_is gk E (⟨i5, 0, a5⟩) ⟨#[58]⟩), ?_⟩; go_simp; rw [if_pos ⟨rfl, wi⟩] at h; (repeat apply Aq); refine At (by go_simp) ?_; (repeat apply Aq); refine Ad F [0, 1, 2, 3, 4, 5, 6, 7, 8, 9] [(1, 5), (2, 5)] mixed (by kernel_rfl) ?_; go_simp; refine ⟨_, r_node gk 5 ⟨#[]⟩ selfJ (.mk k5 t5 m5 q5 l5 b5), ?_⟩; go_simp; apply Ae; go_simp; by_cases wq : hasR E (⟨i5, 0, a5⟩) ⟨#[44]⟩
        · rw [if_pos wq] at h
          apply Ar F; go_simp; refine ⟨_, r_has_yes gk E (⟨i5, 0, a5⟩) hE.len ⟨#[44]⟩ wq, ?_⟩; go_simp; first
            | (refine ⟨g, by omega, _, St.next (⟨i5, 0, a5⟩), .a, ⟨true, false⟩, ?_, fun _ => ⟨by simp only [lA, lB, lC] at hk ⊢; omega, h⟩, fun e => (by cases e)⟩
               go_simp; done)
            | (refine ⟨g, by omega, _, St.next (⟨i5, 0, a5⟩), .b, ⟨true, false⟩, ?_, fun _ => ⟨by simp only [lA, lB, lC] at hk ⊢; omega, h⟩, fun e => (by cases e)⟩
               go_simp; done)
            | (refine ⟨g, by omega, _, St.next (⟨i5, 0, a5⟩), .c, ⟨true, false⟩, ?_, fun _ => ⟨by simp only [lA, lB, lC] at hk ⊢; omega, h⟩, fun e => (by cases e)⟩
               go_simp; done)
        rw [if_neg wq] at h; apply Ar F; go_simp; refine ⟨_, r_has_no gk E (⟨i5, 0, a5⟩) ⟨#[44]⟩ wq, ?_⟩; go_simp; have h := congrArg some (Oi h); first
          | (refine ⟨g, by omega, _, ⟨i5, 0, a5⟩, .a, ⟨false, false⟩, ?_, fun e => (by cases e), fun _ => (Oi h).symm⟩
             go_simp; done)
          | (refine ⟨g, by omega, _, ⟨i5, 0, a5⟩, .b, ⟨false, false⟩, ?_, fun e => (by cases e), fun _ => (Oi h).symm⟩
             go_simp; done)
          | (refine ⟨g, by omega, _, ⟨i5, 0, a5⟩, .c, ⟨false, false⟩, ?_, fun e => (by cases e), fun _ => (Oi h).symm⟩
             go_simp; done)
      have wdn : ¬ ((s5.err : Nat) : Int) = 0 := by omega
      rw [if_neg (fun hh => wd hh.1)] at h; apply Ar F; go_simp; (repeat apply Aq); refine Af (by go_simp) ?_; apply As; go_simp; have cw8 := r_want gk E hE (s5) ⟨#[58]⟩; generalize wantR E (s5) ⟨#[58]⟩ = u1 at h cw8; apply Ar F; go_simp; refine ⟨_, cw8, ?_⟩; go_simp; (repeat apply Aq); refine Ad F [0, 1, 2, 3, 4, 5, 6, 7, 8] [(1, 4), (2, 4)] mixed (by kernel_rfl) ?_; go_simp; obtain ⟨n4, s4, hx4, h⟩ := bindR_some h; have c4 := IH g (by omega) E hE _ _ (n4, s4) hx4; refine ⟨_, c4, ?_⟩; obtain ⟨k4, t4, m4, q4, l4, b4⟩ := n4; try dsimp only at h
      clear c4; clear hx4; go_simp; by_cases wq : hasR E (s4) ⟨#[44]⟩
      · rw [if_pos wq] at h
        apply Ar F; go_simp; refine ⟨_, r_has_yes gk E (s4) hE.len ⟨#[44]⟩ wq, ?_⟩; go_simp; first
          | (refine ⟨g, by omega, _, St.next (s4), .a, ⟨true, false⟩, ?_, fun _ => ⟨by simp only [lA, lB, lC] at hk ⊢; omega, h⟩, fun e => (by cases e)⟩
             go_simp; done)
          | (refine ⟨g, by omega, _, St.next (s4), .b, ⟨true, false⟩, ?_, fun _ => ⟨by simp only [lA, lB, lC] at hk ⊢; omega, h⟩, fun e => (by cases e)⟩
             go_simp; done)
          | (refine ⟨g, by omega, _, St.next (s4), .c, ⟨true, false⟩, ?_, fun _ => ⟨by simp only [lA, lB, lC] at hk ⊢; omega, h⟩, fun e => (by cases e)⟩
             go_simp; done)
      rw [if_neg wq] at h; apply Ar F; go_simp; refine ⟨_, r_has_no gk E (s4) ⟨#[44]⟩ wq, ?_⟩; go_simp; have h := congrArg some (Oi h); first
        | (refine ⟨g, by omega, _, s4, .a, ⟨false, false⟩, ?_, fun e => (by cases e), fun _ => (Oi h).symm⟩
           go_simp; done)
        | (refine ⟨g, by omega, _, s4, .b, ⟨false, false⟩, ?_, fun e => (by cases e), fun _ => (Oi h).symm⟩
           go_simp; done)
        | (refine ⟨g, by omega, _, s4, .c, ⟨false, false⟩, ?_, fun e => (by cases e), fun _ => (Oi h).symm⟩
           go_simp; done)
    rw [if_neg wc] at h; have vwc : ¬ ((tokAt E (i1)).kind : Int) = 5 := by omega
    apply Ar F; go_simp; (repeat apply Aq); refine Af (by go_simp) ?_; have cw9 := r_want gk E hE (⟨i1, 0, a1⟩) ⟨#[40]⟩; generalize wantR E (⟨i1, 0, a1⟩) ⟨#[40]⟩ = u0 at h cw9; apply Ar F; go_simp; refine ⟨_, cw9, ?_⟩; go_simp; apply Ar F; go_simp; obtain ⟨n5, s5, hx5, h⟩ := bindR_some h; have c5 := IH g (by omega) E hE _ _ (n5, s5) hx5; refine ⟨_, c5, ?_⟩; obtain ⟨k5, t5, m5, q5, l5, b5⟩ := n5; try dsimp only at h
    clear c5; clear hx5; go_simp; have cw10 := r_want gk E hE (s5) ⟨#[41]⟩; generalize wantR E (s5) ⟨#[41]⟩ = u1 at h cw10; apply Ar F; go_simp; refine ⟨_, cw10, ?_⟩; go_simp; apply Ar F; go_simp; (repeat apply Aq); refine Af (by go_simp) ?_; apply As; go_simp; have cw11 := r_want gk E hE (u1) ⟨#[58]⟩; generalize wantR E (u1) ⟨#[58]⟩ = u2 at h cw11; apply Ar F; go_simp; refine ⟨_, cw11, ?_⟩; go_simp; (repeat apply Aq); refine Ad F [0, 1, 2, 3, 4, 5, 6, 7, 8] [(1, 4), (2, 4)] mixed (by kernel_rfl) ?_; go_simp; obtain ⟨n4, s4, hx4, h⟩ := bindR_some h; have c4 := IH g (by omega) E hE _ _ (n4, s4) hx4; refine ⟨_, c4, ?_⟩; obtain ⟨k4, t4, m4, q4, l4, b4⟩ := n4; try dsimp only at h
    clear c4; clear hx4; go_simp; by_cases wq : hasR E (s4) ⟨#[44]⟩
    · rw [if_pos wq] at h
      apply Ar F; go_simp; refine ⟨_, r_has_yes gk E (s4) hE.len ⟨#[44]⟩ wq, ?_⟩; go_simp; first
        | (refine ⟨g, by omega, _, St.next (s4), .a, ⟨true, false⟩, ?_, fun _ => ⟨by simp only [lA, lB, lC] at hk ⊢; omega, h⟩, fun e => (by cases e)⟩
           go_simp; done)
        | (refine ⟨g, by omega, _, St.next (s4), .b, ⟨true, false⟩, ?_, fun _ => ⟨by simp only [lA, lB, lC] at hk ⊢; omega, h⟩, fun e => (by cases e)⟩
           go_simp; done)
        | (refine ⟨g, by omega, _, St.next (s4), .c, ⟨true, false⟩, ?_, fun _ => ⟨by simp only [lA, lB, lC] at hk ⊢; omega, h⟩, fun e => (by cases e)⟩
           go_simp; done)
    rw [if_neg wq] at h; apply Ar F; go_simp; refine ⟨_, r_has_no gk E (s4) ⟨#[44]⟩ wq, ?_⟩; go_simp; have h := congrArg some (Oi h); first
      | (refine ⟨g, by omega, _, s4, .a, ⟨false, false⟩, ?_, fun e => (by cases e), fun _ => (Oi h).symm⟩
         go_simp; done)
      | (refine ⟨g, by omega, _, s4, .b, ⟨false, false⟩, ?_, fun e => (by cases e), fun _ => (Oi h).symm⟩
         go_simp; done)
      | (refine ⟨g, by omega, _, s4, .c, ⟨false, false⟩, ?_, fun e => (by cases e), fun _ => (Oi h).symm⟩
         go_simp; done)
open Go Go.RowKit Go.Proofs Th
set_option maxRecDepth 8000
attribute [local go_sem] txtA_nil txtB_nil txtC_nil List.map_append List.map_cons List.map_nil List.length_map
variable {G : World → CS → Prop}
theorem r_word (gk : GK G) (f : Nat) (IH : IHR G f) (E : Env) (hE : EB E) (s : St) (hf : f ≤ 100000000) (r : NJ × St) (h : stepR (runR f) E (.word) s = some r) : ACalls Tryz.prog G 132 (some (rdrIV E s)) [] (resR E r) := by
  simp only [stepR] at h; refine ACalls.enter Tryz.func132 rfl rfl gk Tryz.ntmps132 fun X F => ?_
  by_cases w1 : hasR E (s) ⟨#[105, 102]⟩
  · rw [if_pos w1] at h
    apply Ar F; go_simp; apply Ar F; go_simp; refine ⟨_, r_has_yes gk E (s) hE.len ⟨#[105, 102]⟩ w1, ?_⟩; go_simp; (repeat apply Aq); refine At (by go_simp) ?_; apply Ar F; go_simp; obtain ⟨⟨k9, t9, m9, q9, l9, b9⟩, s9⟩ := r; have c9 := IH f (Nr f) E hE _ _ _ h; refine ⟨_, c9, ?_⟩; clear c9; go_simp; apply Au; go_simp
  rw [if_neg w1] at h; apply Ar F; go_simp; apply Ar F; go_simp; refine ⟨_, r_has_no gk E (s) ⟨#[105, 102]⟩ w1, ?_⟩; go_simp; (repeat apply Aq); refine Af (by go_simp) ?_; apply As; go_simp; by_cases w2 : hasR E (s) ⟨#[116, 114, 121]⟩
  · rw [if_pos w2] at h
    apply Ar F; go_simp; refine ⟨_, r_has_yes gk E (s) hE.len ⟨#[116, 114, 121]⟩ w2, ?_⟩; go_simp; (repeat apply Aq); refine At (by go_simp) ?_; apply Ar F; go_simp; obtain ⟨n1, s1, hx1, h⟩ := bindR_some h; have c1 := IH f (Nr f) E hE _ _ (n1, s1) hx1; refine ⟨_, c1, ?_⟩; obtain ⟨k1, t1, m1, q1, l1, b1⟩ := n1; try dsimp only at h
    clear c1; clear hx1; go_simp; by_cases w3 : hasR E (s1) ⟨#[99, 97, 116, 99, 104]⟩
    · rw [if_pos w3] at h
      apply Ar F; go_simp; refine ⟨_, r_has_yes gk E (s1) hE.len ⟨#[99, 97, 116, 99, 104]⟩ w3, ?_⟩; go_simp; (repeat apply Aq); refine At (by go_simp) ?_; (repeat apply Aq); refine Ad F [0, 1, 2, 3, 4, 5, 6, 7] [(1, 3)] mixed (by kernel_rfl) ?_; go_simp; obtain ⟨n2, s2, hx2, h⟩ := bindR_some h; have c2 := IH f (Nr f) E hE _ _ (n2, s2) hx2; refine ⟨_, c2, ?_⟩; obtain ⟨k2, t2, m2, q2, l2, b2⟩ := n2; try dsimp only at h
      clear c2; clear hx2; go_simp; obtain rfl := Oi h; apply Ar F; go_simp; apply Au; go_simp
    rw [if_neg w3] at h; apply Ar F; go_simp; refine ⟨_, r_has_no gk E (s1) ⟨#[99, 97, 116, 99, 104]⟩ w3, ?_⟩; go_simp; (repeat apply Aq); refine Af (by go_simp) ?_; apply As; go_simp; obtain rfl := Oi h; apply Ar F; go_simp; apply Au; go_simp
  rw [if_neg w2] at h; apply Ar F; go_simp; refine ⟨_, r_has_no gk E (s) ⟨#[116, 114, 121]⟩ w2, ?_⟩; go_simp; (repeat apply Aq); refine Af (by go_simp) ?_; apply As; go_simp; by_cases wr : isR E (s) ⟨#[114, 101, 100, 117, 99, 101]⟩
  · apply Ar F
    go_simp; refine ⟨_, (decide_eq_true wr ▸ r_is gk E (s) ⟨#[114, 101, 100, 117, 99, 101]⟩), ?_⟩; go_simp; rw [if_pos (Or.inl wr)] at h; simp only [if_pos wr] at h; have hi : s.i < E.l.length := tok_lt' (by have := wr.1; omega); have hr := rng ((s.i : Int) + 1) (by have := hE.len; omega); (repeat apply Aq); refine At (by go_simp) ?_; apply Ar F; go_simp; apply Ar F; go_simp; refine ⟨_, (decide_eq_true wr ▸ r_is gk E s _), ?_⟩; go_simp; (repeat apply Aq); refine At (by go_simp) ?_; apply Ar F; go_simp; apply Ar F; go_simp; (repeat apply Aq); refine Ad F [0, 1, 2, 3, 4, 5, 6, 7] [(1, 3)] mixed (by kernel_rfl) ?_; go_simp; obtain ⟨n1, s1, hx1, h⟩ := bindR_some h; have c1 := IH f (Nr f) E hE _ _ (n1, s1) hx1; refine ⟨_, c1, ?_⟩; obtain ⟨k1, t1, m1, q1, l1, b1⟩ := n1; try dsimp only at h
    clear c1; clear hx1; go_simp; have cw4 := r_want gk E hE (s1) ⟨#[97, 115]⟩; generalize wantR E (s1) ⟨#[97, 115]⟩ = u1 at h cw4; apply Ar F; go_simp; refine ⟨_, cw4, ?_⟩; go_simp; have cn5 := r_named gk E hE (u1) 2 (by decide); have hn5 := named_sz hE (u1) 2; generalize namedR E (u1) 2 = pn5 at h cn5 hn5; obtain ⟨nm, s2⟩ := pn5; dsimp only at h cn5 hn5; apply Ar F; go_simp; refine ⟨_, cn5, ?_⟩; go_simp; have cw6 := r_want gk E hE (s2) ⟨#[40]⟩; generalize wantR E (s2) ⟨#[40]⟩ = u2 at h cw6; apply Ar F; go_simp; refine ⟨_, cw6, ?_⟩; go_simp; (repeat apply Aq); refine Ad F [0, 1, 2, 3, 4, 5, 6, 7] [(1, 3)] mixed (by kernel_rfl) ?_; go_simp; obtain ⟨n3, s3, hx3, h⟩ := bindR_some h; have c3 := IH f (Nr f) E hE _ _ (n3, s3) hx3; refine ⟨_, c3, ?_⟩; obtain ⟨k3, t3, m3, q3, l3, b3⟩ := n3; try dsimp only at h
    clear c3; clear hx3; go_simp; have cw7 := r_want gk E hE (s3) ⟨#[59]⟩; generalize wantR E (s3) ⟨#[59]⟩ = u3 at h cw7; apply Ar F; go_simp; refine ⟨_, cw7, ?_⟩; go_simp; (repeat apply Aq); refine Ad F [0, 1, 2, 3, 4, 5, 6, 7] [(1, 3)] mixed (by kernel_rfl) ?_; go_simp; obtain ⟨n4, s4, hx4, h⟩ := bindR_some h; have c4 := IH f (Nr f) E hE _ _ (n4, s4) hx4; refine ⟨_, c4, ?_⟩; obtain ⟨k4, t4, m4, q4, l4, b4⟩ := n4; try dsimp only at h
    clear c4; clear hx4; go_simp; rw [if_neg (by decide)] at h; apply Ar F; go_simp; (repeat apply Aq); refine Af (by go_simp) ?_; apply As; go_simp; have cw8 := r_want gk E hE (s4) ⟨#[41]⟩; generalize wantR E (s4) ⟨#[41]⟩ = u4 at h cw8; apply Ar F; go_simp; refine ⟨_, cw8, ?_⟩; go_simp; obtain rfl := Oi h; apply Ar F; go_simp; apply Au; go_simp
  apply Ar F; go_simp; refine ⟨_, (decide_eq_false wr ▸ r_is gk E (s) ⟨#[114, 101, 100, 117, 99, 101]⟩), ?_⟩; go_simp; by_cases ws : isR E (s) ⟨#[102, 111, 114, 101, 97, 99, 104]⟩
  · refine ⟨_, (decide_eq_true ws ▸ r_is gk E (s) ⟨#[102, 111, 114, 101, 97, 99, 104]⟩), ?_⟩
    go_simp; rw [if_pos (Or.inr ws)] at h; simp only [if_neg wr] at h; have hi : s.i < E.l.length := tok_lt' (by have := ws.1; omega); have hr := rng ((s.i : Int) + 1) (by have := hE.len; omega); (repeat apply Aq); refine At (by go_simp) ?_; apply Ar F; go_simp; apply Ar F; go_simp; refine ⟨_, (decide_eq_false wr ▸ r_is gk E s _), ?_⟩; go_simp; (repeat apply Aq); refine Af (by go_simp) ?_; apply As; go_simp; apply Ar F; go_simp; (repeat apply Aq); refine Ad F [0, 1, 2, 3, 4, 5, 6, 7] [(1, 3)] mixed (by kernel_rfl) ?_; go_simp; obtain ⟨n1, s1, hx1, h⟩ := bindR_some h; have c1 := IH f (Nr f) E hE _ _ (n1, s1) hx1; refine ⟨_, c1, ?_⟩; obtain ⟨k1, t1, m1, q1, l1, b1⟩ := n1; try dsimp only at h
    clear c1; clear hx1; go_simp; have cw9 := r_want gk E hE (s1) ⟨#[97, 115]⟩; generalize wantR E (s1) ⟨#[97, 115]⟩ = u1 at h cw9; apply Ar F; go_simp; refine ⟨_, cw9, ?_⟩; go_simp; have cn10 := r_named gk E hE (u1) 2 (by decide); have hn10 := named_sz hE (u1) 2; generalize namedR E (u1) 2 = pn10 at h cn10 hn10; obtain ⟨nm, s2⟩ := pn10; dsimp only at h cn10 hn10; apply Ar F; go_simp; refine ⟨_, cn10, ?_⟩; go_simp; have cw11 := r_want gk E hE (s2) ⟨#[40]⟩; generalize wantR E (s2) ⟨#[40]⟩ = u2 at h cw11; apply Ar F; go_simp; refine ⟨_, cw11, ?_⟩; go_simp; (repeat apply Aq); refine Ad F [0, 1, 2, 3, 4, 5, 6, 7] [(1, 3)] mixed (by kernel_rfl) ?_; go_simp; obtain ⟨n3, s3, hx3, h⟩ := bindR_some h; have c3 := IH f (Nr f) E hE _ _ (n3, s3) hx3; refine ⟨_, c3, ?_⟩; obtain ⟨k3, t3, m3, q3, l3, b3⟩ := n3; try dsimp only at h
    clear c3; clear hx3; go_simp; have cw12 := r_want gk E hE (s3) ⟨#[59]⟩; generalize wantR E (s3) ⟨#[59]⟩ = u3 at h cw12; apply Ar F; go_simp; refine ⟨_, cw12, ?_⟩; go_simp; (repeat apply Aq); refine Ad F [0, 1, 2, 3, 4, 5, 6, 7] [(1, 3)] mixed (by kernel_rfl) ?_; go_simp; obtain ⟨n4, s4, hx4, h⟩ := bindR_some h; have c4 := IH f (Nr f) E hE _ _ (n4, s4) hx4; refine ⟨_, c4, ?_⟩; obtain ⟨k4, t4, m4, q4, l4, b4⟩ := n4; try dsimp only at h
    clear c4; clear hx4; go_simp; simp only [if_true] at h; apply Ar F; go_simp; (repeat apply Aq); refine At (by go_simp) ?_; by_cases w13 : hasR E (s4) ⟨#[59]⟩
    · rw [if_pos w13] at h
      apply Ar F; go_simp; apply Ar F; go_simp; refine ⟨_, r_has_yes gk E (s4) hE.len ⟨#[59]⟩ w13, ?_⟩; go_simp; (repeat apply Aq); refine At (by go_simp) ?_; apply Ar F; go_simp; obtain ⟨n5, s5, hx5, h⟩ := bindR_some h; have c5 := IH f (Nr f) E hE _ _ (n5, s5) hx5; refine ⟨_, c5, ?_⟩; obtain ⟨k5, t5, m5, q5, l5, b5⟩ := n5; try dsimp only at h
      clear c5; clear hx5; go_simp; have cw14 := r_want gk E hE (s5) ⟨#[41]⟩; generalize wantR E (s5) ⟨#[41]⟩ = u5 at h cw14; apply Ar F; go_simp; apply Ar F; go_simp; refine ⟨_, cw14, ?_⟩; go_simp; obtain rfl := Oi h; apply Ar F; go_simp; apply Au; go_simp
    rw [if_neg w13] at h; apply Ar F; go_simp; apply Ar F; go_simp; refine ⟨_, r_has_no gk E (s4) ⟨#[59]⟩ w13, ?_⟩; go_simp; (repeat apply Aq); refine Af (by go_simp) ?_; apply As; go_simp; have cw15 := r_want gk E hE (s4) ⟨#[41]⟩; generalize wantR E (s4) ⟨#[41]⟩ = u5 at h cw15; apply Ar F; go_simp; apply Ar F; go_simp; refine ⟨_, cw15, ?_⟩; go_simp; obtain rfl := Oi h; apply Ar F; go_simp; apply Au; go_simp
  refine ⟨_, (decide_eq_false ws ▸ r_is gk E (s) ⟨#[102, 111, 114, 101, 97, 99, 104]⟩), ?_⟩; go_simp; rw [if_neg (fun hh => hh.elim wr ws)] at h; (repeat apply Aq); refine Af (by go_simp) ?_; apply As; go_simp; have cn16 := r_named gk E hE (s) 1 (by decide); have hn16 := named_sz hE (s) 1; generalize namedR E (s) 1 = pn16 at h cn16 hn16; obtain ⟨nm, s2⟩ := pn16; dsimp only at h cn16 hn16; apply Ar F; go_simp; refine ⟨_, cn16, ?_⟩; go_simp; by_cases w17 : hasR E (s2) ⟨#[40]⟩
  · rw [if_pos w17] at h
    apply Ar F; go_simp; refine ⟨_, r_has_yes gk E (s2) hE.len ⟨#[40]⟩ w17, ?_⟩; go_simp; (repeat apply Aq); refine At (by go_simp) ?_; apply Ar F; go_simp; (repeat apply Aq); apply Ab; (repeat apply Aq); refine AW.loopP [0, 2, 6, 7] [1000, 2, 6, 112] (by decide) (fun g st => ∃ (kids : List NJ) (s1 : St) (fl : Fl), st = mkS [(0, .ptr 1000 0), (2, .ptr 2 0), (6, .ptr 6 0), (7, .im (bI fl.a))] [(1000, .box ((rdrIV E s1).map .im)), (2, .box zeroN), (6, .box [.im (iI 23), .im (sI nm), .im (iI 0), .im (iI 0), kidC 112 kids, .im (.sl [] true)]), (112, rowC kids)] ∧ (fl.a = true → kids.length + g ≤ f ∧ runR g E (.callLoop nm kids) s1 = some r) ∧ (fl.a = false → r = (.mk 23 nm 0 0 kids [], wantR E s1 ⟨#[41]⟩))) (f) ?_ ?_
    · refine ⟨[], s2.next, ⟨true, false⟩, ?_, fun _ => ⟨by simp only [List.length_nil]; omega, h⟩, fun e => (by cases e)⟩
      go_simp
    rintro g st ⟨kids, s1, ⟨bb, bx⟩, rfl, hT, hF⟩; dsimp only at hT hF; cases bb
    · rcases kids with _ | ⟨ka, kids⟩
      all_goals
        have h := hF rfl; clear hT hF; apply Ar F; go_simp; (repeat apply Aq); refine Af (by go_simp) ?_; apply Ae; go_simp; have cw18 := r_want gk E hE (s1) ⟨#[41]⟩; generalize wantR E (s1) ⟨#[41]⟩ = u1 at h cw18; apply Ar F; go_simp; refine ⟨_, cw18, ?_⟩; go_simp; subst h; apply Ar F; go_simp; apply Au; go_simp
    rcases kids with _ | ⟨ka, kids⟩
    all_goals
      obtain ⟨hk, h⟩ := hT rfl; clear hT hF; rcases g with _ | g
      · cases h
      simp only [runR, stepR] at h; try (have hk2 : kids.length ≤ 999999997 := by simp only [lB] at hk; omega)
      try (have hk3 : kids.length ≤ 999999998 := by simp only [lB] at hk; omega)
      by_cases w19 : s1.err ≠ 0
      · have vw19 : ¬ ((s1.err : Nat) : Int) = 0 := by omega
        rw [if_pos w19] at h; apply Ar F; go_simp; (repeat apply Aq); refine Af (by go_simp) ?_; apply Ae; go_simp; have cw20 := r_want gk E hE (s1) ⟨#[41]⟩; generalize wantR E (s1) ⟨#[41]⟩ = u1 at h cw20; apply Ar F; go_simp; refine ⟨_, cw20, ?_⟩; go_simp; obtain rfl := Oi h; apply Ar F; go_simp; apply Au; go_simp
      rw [if_neg w19] at h; obtain ⟨i1, e1, a1⟩ := s1; obtain rfl : e1 = 0 := Dn w19; try dsimp only at h
      apply Ar F; go_simp; (repeat apply Aq); refine At (by go_simp) ?_; apply As; go_simp; (repeat apply Aq); apply Ab; (repeat apply Aq); refine Ad F [0, 1, 2, 3, 4, 5, 6, 7] [(1, 3)] mixed (by kernel_rfl) ?_; go_simp; obtain ⟨n4, s4, hx4, h⟩ := bindR_some h; have c4 := IH g (by omega) E hE _ _ (n4, s4) hx4; refine ⟨_, c4, ?_⟩; obtain ⟨k4, t4, m4, q4, l4, b4⟩ := n4; try dsimp only at h
      clear c4; clear hx4; go_simp; by_cases w21 : hasR E (s4) ⟨#[59]⟩
      · rw [if_pos w21] at h
        apply Ar F; go_simp; refine ⟨_, r_has_yes gk E (s4) hE.len ⟨#[59]⟩ w21, ?_⟩; go_simp; refine ⟨g, by omega, _, s4.next, ⟨true, false⟩, ?_, fun _ => ⟨by simp only [lA, lB, lC] at hk ⊢; omega, h⟩, fun e => (by cases e)⟩; go_simp
      rw [if_neg w21] at h; apply Ar F; go_simp; refine ⟨_, r_has_no gk E (s4) ⟨#[59]⟩ w21, ?_⟩; go_simp; refine ⟨g, by omega, _, s4, ⟨false, false⟩, ?_, fun e => (by cases e), fun _ => (Oi h).symm⟩; go_simp
  rw [if_neg w17] at h; apply Ar F; go_simp; refine ⟨_, r_has_no gk E (s2) ⟨#[40]⟩ w17, ?_⟩; go_simp; (repeat apply Aq); refine Af (by go_simp) ?_; apply As; go_simp; obtain rfl := Oi h; apply Ar F; go_simp; apply Au; go_simp
end Go.Proofs.YtinknjhclpaieaaGreatDoor
