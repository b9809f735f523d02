/- Lemmas and contracts for the laws SyntaxPieces, part 36 of 48: R10C, R10D. Conditions: those that each lemma names. -/
import Derived.Test.YtinknjhclpaieaaGreatDoorPq35
import Derived.Test.YtinknjhclpaieaaGreatDoorPq30
set_option maxRecDepth 100000
set_option maxHeartbeats 8000000
namespace Go.Proofs.YtinknjhclpaieaaGreatDoor
open Go Go.RowKit Go.Proofs Th
set_option maxRecDepth 8000
attribute [local go_sem] aops aopsD stepA chkD disj aguard isWant aop aval abuil acall acallP acallR argsIV valOf aput startS mkS numb look upd toIV allIV zeroFV aload setSeg afill aelems cellsOf toSl toVal valsOf aidx abin ainR FV.ok IV.one IV.er IV.erA IV.er1 iI sI bI nodeIV nodesIV tokIV parIV faultV resP lift AThen ABlock AEnd resL resV rload rcOf imsOf oneV nodeJ kidsJ strJ knownJ selfJ noNJ noTf foot owns pruneS filtF filtO Value.oneCell'
attribute [local go_sem] ti_node ti_tok ti_par ti_fault ti_nodes ti_toks ti_strs ti_ints ti_str ti_int ti_num ti_errno
attribute [local go_sem] rdrIV ti_rdr St.next sel
attribute [local go_sem] resR zeroN nodesIV_append nodesIV_len kidC rowC nodeF
attribute [local go_sem] txtA_nil txtB_nil txtA_a txtA_b txtB_a txtB_b txtC_nil txtC_a txtC_b List.map_append List.map_cons List.map_nil List.length_map
variable {G : World → CS → Prop}
theorem bindA_some {α : Type} {a : Option (List ByteArray × St)} {k : List ByteArray → St → Option α} {x : α} (h : bindA a k = some x) : ∃ l s, a = some (l, s) ∧ k l s = some x := by
  cases a with
  | none => cases h
  | some y => exact ⟨_, _, rfl, h⟩
theorem argsR_2 {E : Env} {n : Nat} {acc : List ByteArray} {s : St} (hk : (tokAt E s.i).kind = 2) : argsR E (n + 1) acc s = if hasR E (namedR E s 2).2 ⟨#[59]⟩ then argsR E n (acc ++ [⟨#[36]⟩ ++ (namedR E s 2).1]) (namedR E s 2).2.next else some (acc ++ [⟨#[36]⟩ ++ (namedR E s 2).1], (namedR E s 2).2) := by simp only [argsR, if_pos hk]
theorem argsR_1 {E : Env} {n : Nat} {acc : List ByteArray} {s : St} (hk : ¬ (tokAt E s.i).kind = 2) : argsR E (n + 1) acc s = if hasR E (namedR E s 1).2 ⟨#[59]⟩ then argsR E n (acc ++ [(namedR E s 1).1]) (namedR E s 1).2.next else some (acc ++ [(namedR E s 1).1], (namedR E s 1).2) := by simp only [argsR, if_neg hk]
theorem r_filter (gk : GK G) (f : Nat) (IH : IHR G f) (E : Env) (hE : EB E) (s : St) (r : NJ × St) (h : stepR (runR f) E (.filter) s = some r) : ACalls Tryz.prog G 20 (some (rdrIV E s)) [] (resR E r) := by
  simp only [stepR] at h; refine ACalls.enter Tryz.func20 rfl rfl gk Tryz.ntmps20 fun X F => ?_
  by_cases w1 : s.err ≠ 0
  · have vw1 : ¬ ((s.err : Nat) : Int) = 0 := by omega
    rw [if_pos w1] at h; obtain rfl := Oi h; apply Ar F; go_simp; apply Ar F; go_simp; (repeat apply Aq); refine At (by go_simp) ?_; apply Ar F; go_simp; apply Au; go_simp
  rw [if_neg w1] at h; obtain ⟨i, e, a⟩ := s; obtain rfl : e = 0 := Dn w1; try dsimp only at h
  apply Ar F; go_simp; apply Ar F; go_simp; (repeat apply Aq); refine Af (by go_simp) ?_; apply As; go_simp; by_cases w2 : hasR E (⟨i, 0, a⟩) ⟨#[100, 101, 102]⟩
  · rw [if_pos w2] at h
    apply Ar F; go_simp; refine ⟨_, r_has_yes gk E (⟨i, 0, a⟩) hE.len ⟨#[100, 101, 102]⟩ w2, ?_⟩; go_simp; (repeat apply Aq); refine At (by go_simp) ?_; have cn3 := r_named gk E hE (St.next ⟨i, 0, a⟩) 1 (by decide); have hn3 := named_sz hE (St.next ⟨i, 0, a⟩) 1; generalize namedR E (St.next ⟨i, 0, a⟩) 1 = pn3 at h cn3 hn3; obtain ⟨nm, s2⟩ := pn3; dsimp only at h cn3 hn3; apply Ar F; go_simp; refine ⟨_, cn3, ?_⟩; go_simp; by_cases wp : hasR E (s2) ⟨#[40]⟩
    · rw [if_pos wp] at h
      apply Ar F; go_simp; refine ⟨_, r_has_yes gk E (s2) hE.len ⟨#[40]⟩ wp, ?_⟩; go_simp; obtain ⟨args, s3, ha, ho⟩ := bindA_some h; clear h; (repeat apply Aq); refine At (by go_simp) ?_; apply Ar F; go_simp; (repeat apply Aq); apply Ab; (repeat apply Aq); refine AW.loopP [0, 2, 3, 4] [1000, 2, 3, 39, 46] (by decide) (fun g st => ∃ (acc : List ByteArray) (s4 : St) (w : W2) (fl : Fl), st = mkS [(0, .ptr 1000 0), (2, .ptr 2 0), (3, .ptr 3 0), (4, .im (bI fl.a))] [(1000, .box ((rdrIV E s4).map .im)), (2, .box zeroN), (3, .box [.im (iI 24), .im (sI nm), .im (iI 0), .im (iI 0), .im (.sl [] true), txtC 39 46 w acc]), (39, txtA w acc), (46, txtB w acc)] ∧ (fl.a = true → s4.err = 0 ∧ acc.length + g = E.l.length + 1 ∧ argsR E g acc s4 = some (args, s3)) ∧ (fl.a = false → acc = args ∧ s4 = s3)) (E.l.length + 1) ?_ ?_
      · refine ⟨[], s2.next, .a, ⟨true, false⟩, ?_, fun _ => ⟨wp.1, by simp only [List.length_nil]; omega, ha⟩, fun e => (by cases e)⟩
        go_simp
      rintro g st ⟨acc, s4, w, ⟨bb, bx⟩, rfl, hT, hF⟩; dsimp only at hT hF; have hlen := hE.len; cases bb
      · rcases acc with _ | ⟨ka, acc⟩
        rotate_left
        rcases w with _ | _
        all_goals
          obtain ⟨e1, e2⟩ := hF rfl; clear hT hF; subst e1 e2; have h := ho; clear ho; apply Ar F; go_simp; (repeat apply Aq); refine Af (by go_simp) ?_; apply Ae; go_simp; have cw4 := r_want gk E hE (s4) ⟨#[41]⟩; generalize wantR E (s4) ⟨#[41]⟩ = u0 at h cw4; apply Ar F; go_simp; refine ⟨_, cw4, ?_⟩; go_simp; have cw5 := r_want gk E hE (u0) ⟨#[58]⟩; generalize wantR E (u0) ⟨#[58]⟩ = u1 at h cw5; apply Ar F; go_simp; refine ⟨_, cw5, ?_⟩; go_simp; apply Ar F; go_simp; obtain ⟨n5, s5, hx5, h⟩ := bindR_some h; have c5 := IH f (Nr f) E hE _ _ (n5, s5) hx5; refine ⟨_, c5, ?_⟩; obtain ⟨k5, t5, m5, q5, l5, b5⟩ := n5; try dsimp only at h
          clear c5; clear hx5; go_simp; have cw6 := r_want gk E hE (s5) ⟨#[59]⟩; generalize wantR E (s5) ⟨#[59]⟩ = u2 at h cw6; apply Ar F; go_simp; refine ⟨_, cw6, ?_⟩; go_simp; (repeat apply Aq); refine Ad F [0, 1, 2, 3, 4, 5] [(0, 2)] mixed (by kernel_rfl) ?_; go_simp; obtain ⟨n6, s6, hx6, h⟩ := bindR_some h; have c6 := IH f (Nr f) E hE _ _ (n6, s6) hx6; refine ⟨_, c6, ?_⟩; obtain ⟨k6, t6, m6, q6, l6, b6⟩ := n6; try dsimp only at h
          clear c6; clear hx6; go_simp; obtain rfl := Oi h; apply Ar F; go_simp; apply Au; go_simp
      rcases acc with _ | ⟨ka, acc⟩
      rotate_left
      rcases w with _ | _
      all_goals
        obtain ⟨he, hn, h⟩ := hT rfl; clear hT hF; obtain ⟨i4, e4, a4⟩ := s4; dsimp only at he; subst he; rcases g with _ | g
        · cases h
        try (have hk2 : acc.length ≤ 999999998 := by simp only [lB] at hn; omega)
        apply Ar F; go_simp; (repeat apply Aq); refine At (by go_simp) ?_; apply As; go_simp; (repeat apply Aq); apply Ab; apply Ar F; go_simp; refine ⟨_, r_kind gk E (⟨i4, 0, a4⟩), ?_⟩; go_simp; by_cases k2 : (tokAt E i4).kind = 2
        · rw [argsR_2 k2] at h
          (repeat apply Aq); refine At (by go_simp) ?_; have cn7 := r_named gk E hE (⟨i4, 0, a4⟩) 2 (by decide); have hn7 := named_sz hE (⟨i4, 0, a4⟩) 2; generalize namedR E (⟨i4, 0, a4⟩) 2 = pn7 at h cn7 hn7; obtain ⟨nx, s6⟩ := pn7; dsimp only at h cn7 hn7; have z7 : 1 + nx.size ≤ 9223372036854775807 := by omega
          (repeat apply Aq); refine Ad F [0, 1, 2, 3, 4, 5, 6, 7, 8] [(1, 3)] mixed (by kernel_rfl) ?_; go_simp; refine ⟨_, cn7, ?_⟩; go_simp; by_cases wq : hasR E (s6) ⟨#[59]⟩
          · rw [if_pos wq] at h
            apply Ar F; go_simp; refine ⟨_, r_has_yes gk E (s6) hE.len ⟨#[59]⟩ wq, ?_⟩; go_simp; first
              | (refine ⟨g, by omega, _, s6.next, .a, ⟨true, false⟩, ?_, fun _ => ⟨wq.1, by simp only [lA, lB, lC] at hn ⊢; omega, h⟩, fun e => (by cases e)⟩
                 go_simp; done)
              | (refine ⟨g, by omega, _, s6.next, .b, ⟨true, false⟩, ?_, fun _ => ⟨wq.1, by simp only [lA, lB, lC] at hn ⊢; omega, h⟩, fun e => (by cases e)⟩
                 go_simp; done)
          rw [if_neg wq] at h; apply Ar F; go_simp; refine ⟨_, r_has_no gk E (s6) ⟨#[59]⟩ wq, ?_⟩; go_simp; first
            | (refine ⟨g, by omega, _, s6, .a, ⟨false, false⟩, ?_, fun e => (by cases e), fun _ => Prod.mk.inj (Oi h)⟩
               go_simp; done)
            | (refine ⟨g, by omega, _, s6, .b, ⟨false, false⟩, ?_, fun e => (by cases e), fun _ => Prod.mk.inj (Oi h)⟩
               go_simp; done)
        rw [argsR_1 k2] at h; have k2n : ¬ ((tokAt E i4).kind : Int) = 2 := by omega
        (repeat apply Aq); refine Af (by go_simp) ?_; have cn8 := r_named gk E hE (⟨i4, 0, a4⟩) 1 (by decide); have hn8 := named_sz hE (⟨i4, 0, a4⟩) 1; generalize namedR E (⟨i4, 0, a4⟩) 1 = pn8 at h cn8 hn8; obtain ⟨nx, s6⟩ := pn8; dsimp only at h cn8 hn8; (repeat apply Aq); refine Ad F [0, 1, 2, 3, 4, 5, 6, 7] [(1, 3)] mixed (by kernel_rfl) ?_; go_simp; refine ⟨_, cn8, ?_⟩; go_simp; by_cases wq : hasR E (s6) ⟨#[59]⟩
        · rw [if_pos wq] at h
          apply Ar F; go_simp; refine ⟨_, r_has_yes gk E (s6) hE.len ⟨#[59]⟩ wq, ?_⟩; go_simp; first
            | (refine ⟨g, by omega, _, s6.next, .a, ⟨true, false⟩, ?_, fun _ => ⟨wq.1, by simp only [lA, lB, lC] at hn ⊢; omega, h⟩, fun e => (by cases e)⟩
               go_simp; done)
            | (refine ⟨g, by omega, _, s6.next, .b, ⟨true, false⟩, ?_, fun _ => ⟨wq.1, by simp only [lA, lB, lC] at hn ⊢; omega, h⟩, fun e => (by cases e)⟩
               go_simp; done)
        rw [if_neg wq] at h; apply Ar F; go_simp; refine ⟨_, r_has_no gk E (s6) ⟨#[59]⟩ wq, ?_⟩; go_simp; first
          | (refine ⟨g, by omega, _, s6, .a, ⟨false, false⟩, ?_, fun e => (by cases e), fun _ => Prod.mk.inj (Oi h)⟩
             go_simp; done)
          | (refine ⟨g, by omega, _, s6, .b, ⟨false, false⟩, ?_, fun e => (by cases e), fun _ => Prod.mk.inj (Oi h)⟩
             go_simp; done)
    rw [if_neg wp] at h; apply Ar F; go_simp; refine ⟨_, r_has_no gk E (s2) ⟨#[40]⟩ wp, ?_⟩; go_simp; (repeat apply Aq); refine Af (by go_simp) ?_; apply As; go_simp; have cw9 := r_want gk E hE (s2) ⟨#[58]⟩; generalize wantR E (s2) ⟨#[58]⟩ = u1 at h cw9; apply Ar F; go_simp; refine ⟨_, cw9, ?_⟩; go_simp; apply Ar F; go_simp; obtain ⟨n5, s5, hx5, h⟩ := bindR_some h; have c5 := IH f (Nr f) E hE _ _ (n5, s5) hx5; refine ⟨_, c5, ?_⟩; obtain ⟨k5, t5, m5, q5, l5, b5⟩ := n5; try dsimp only at h
    clear c5; clear hx5; go_simp; have cw10 := r_want gk E hE (s5) ⟨#[59]⟩; generalize wantR E (s5) ⟨#[59]⟩ = u2 at h cw10; apply Ar F; go_simp; refine ⟨_, cw10, ?_⟩; go_simp; (repeat apply Aq); refine Ad F [0, 1, 2, 3, 4, 5] [(0, 2)] mixed (by kernel_rfl) ?_; go_simp; obtain ⟨n6, s6, hx6, h⟩ := bindR_some h; have c6 := IH f (Nr f) E hE _ _ (n6, s6) hx6; refine ⟨_, c6, ?_⟩; obtain ⟨k6, t6, m6, q6, l6, b6⟩ := n6; try dsimp only at h
    clear c6; clear hx6; go_simp; obtain rfl := Oi h; apply Ar F; go_simp; apply Au; go_simp
  rw [if_neg w2] at h; apply Ar F; go_simp; refine ⟨_, r_has_no gk E (⟨i, 0, a⟩) ⟨#[100, 101, 102]⟩ w2, ?_⟩; go_simp; (repeat apply Aq); refine Af (by go_simp) ?_; apply As; go_simp; apply Ar F; go_simp; obtain ⟨n1, s1, hx1, h⟩ := bindR_some h; have c1 := IH f (Nr f) E hE _ _ (n1, s1) hx1; refine ⟨_, c1, ?_⟩; obtain ⟨k1, t1, m1, q1, l1, b1⟩ := n1; try dsimp only at h
  clear c1; clear hx1; go_simp; by_cases w11 : hasR E (s1) ⟨#[124]⟩
  · rw [if_pos w11] at h
    apply Ar F; go_simp; refine ⟨_, r_has_yes gk E (s1) hE.len ⟨#[124]⟩ w11, ?_⟩; go_simp; (repeat apply Aq); refine At (by go_simp) ?_; (repeat apply Aq); refine Ad F [0, 1, 2, 3, 4] [(0, 2)] mixed (by kernel_rfl) ?_; go_simp; obtain ⟨n2, s2, hx2, h⟩ := bindR_some h; have c2 := IH f (Nr f) E hE _ _ (n2, s2) hx2; refine ⟨_, c2, ?_⟩; obtain ⟨k2, t2, m2, q2, l2, b2⟩ := n2; try dsimp only at h
    clear c2; clear hx2; go_simp; refine ⟨_, r_node gk 8 ⟨#[]⟩ (.mk k1 t1 m1 q1 l1 b1) (.mk k2 t2 m2 q2 l2 b2), ?_⟩; go_simp; obtain rfl := Oi h; apply Au; go_simp
  rw [if_neg w11] at h; apply Ar F; go_simp; refine ⟨_, r_has_no gk E (s1) ⟨#[124]⟩ w11, ?_⟩; go_simp; obtain rfl := Oi h; (repeat apply Aq); refine Af (by go_simp) ?_; apply As; go_simp; apply Ar F; go_simp; apply Au; go_simp
theorem r_index (gk : GK G) (f : Nat) (IH : IHR G f) (E : Env) (hE : EB E) (s : St) (x : NJ) (r : NJ × St) (h : stepR (runR f) E (.index x) s = some r) : ACalls Tryz.prog G 131 (some (rdrIV E s)) [.agg (nodeIV x)] (resR E r) := by
  simp only [stepR] at h; obtain ⟨k0, t0, m0, q0, l0, b0⟩ := x; refine ACalls.enter Tryz.func131 rfl rfl gk Tryz.ntmps131 fun X F => ?_
  by_cases w1 : hasR E (s) ⟨#[93]⟩
  · rw [if_pos w1] at h
    apply Ar F; go_simp; apply Ar F; go_simp; refine ⟨_, r_has_yes gk E (s) hE.len ⟨#[93]⟩ w1, ?_⟩; go_simp; (repeat apply Aq); refine At (by go_simp) ?_; obtain rfl := Oi h; apply Ar F; go_simp; apply Au; go_simp
  rw [if_neg w1] at h; apply Ar F; go_simp; apply Ar F; go_simp; refine ⟨_, r_has_no gk E (s) ⟨#[93]⟩ w1, ?_⟩; go_simp; (repeat apply Aq); refine Af (by go_simp) ?_; apply As; go_simp; by_cases wi : isR E (s) ⟨#[58]⟩
  · apply Ar F
    go_simp; apply Ar F; go_simp; refine ⟨_, (decide_eq_true wi ▸ r_is gk E (s) ⟨#[58]⟩), ?_⟩; go_simp; rw [if_pos wi, if_pos (show ([] : List ByteArray).length = 0 ∨ _ from Or.inl rfl)] at h; (repeat apply Aq); refine Af (by go_simp) ?_; apply As; go_simp; have cw2 := r_want gk E hE (s) ⟨#[58]⟩; generalize wantR E (s) ⟨#[58]⟩ = u1 at h cw2; apply Ar F; go_simp; refine ⟨_, cw2, ?_⟩; go_simp; apply Ar F; go_simp; (repeat apply Aq); refine At (by go_simp) ?_; (repeat apply Aq); refine Ad F [0, 1, 2, 3, 4, 5, 6, 7] [(1, 3)] mixed (by kernel_rfl) ?_; go_simp; obtain ⟨n2, s2, hx2, h⟩ := bindR_some h; have c2 := IH f (Nr f) E hE _ _ (n2, s2) hx2; refine ⟨_, c2, ?_⟩; obtain ⟨k2, t2, m2, q2, l2, b2⟩ := n2; try dsimp only at h
    clear c2; clear hx2; go_simp; have cw3 := r_want gk E hE (s2) ⟨#[93]⟩; generalize wantR E (s2) ⟨#[93]⟩ = u2 at h cw3; apply Ar F; go_simp; apply Ar F; go_simp; refine ⟨_, cw3, ?_⟩; go_simp; obtain rfl := Oi h; apply Ar F; go_simp; apply Au; go_simp
  apply Ar F; go_simp; apply Ar F; go_simp; refine ⟨_, (decide_eq_false wi ▸ r_is gk E (s) ⟨#[58]⟩), ?_⟩; go_simp; rw [if_neg wi] at h; (repeat apply Aq); refine At (by go_simp) ?_; apply Ar F; go_simp; obtain ⟨n1, s1, hx1, h⟩ := bindR_some h; have c1 := IH f (Nr f) E hE _ _ (n1, s1) hx1; refine ⟨_, c1, ?_⟩; obtain ⟨k1, t1, m1, q1, l1, b1⟩ := n1; try dsimp only at h
  clear c1; clear hx1; go_simp; by_cases w4 : hasR E (s1) ⟨#[93]⟩
  · rw [if_pos w4] at h
    apply Ar F; go_simp; refine ⟨_, r_has_yes gk E (s1) hE.len ⟨#[93]⟩ w4, ?_⟩; go_simp; (repeat apply Aq); refine At (by go_simp) ?_; apply Ar F; go_simp; refine ⟨_, r_node gk 5 ⟨#[]⟩ (.mk k0 t0 m0 q0 l0 b0) (.mk k1 t1 m1 q1 l1 b1), ?_⟩; go_simp; obtain rfl := Oi h; apply Au; go_simp
  rw [if_neg w4] at h; apply Ar F; go_simp; refine ⟨_, r_has_no gk E (s1) ⟨#[93]⟩ w4, ?_⟩; go_simp; (repeat apply Aq); refine Af (by go_simp) ?_; apply As; go_simp; have cw5 := r_want gk E hE (s1) ⟨#[58]⟩; generalize wantR E (s1) ⟨#[58]⟩ = u1 at h cw5; apply Ar F; go_simp; apply Ar F; go_simp; apply Ar F; go_simp; refine ⟨_, cw5, ?_⟩; go_simp; by_cases wj : isR E (u1) ⟨#[93]⟩
  · apply Ar F
    go_simp; refine ⟨_, (decide_eq_true wj ▸ r_is gk E (u1) ⟨#[93]⟩), ?_⟩; go_simp; rw [if_neg (fun hh => hh.elim (fun e => (by cases e)) (fun e => e wj))] at h; (repeat apply Aq); refine Af (by go_simp) ?_; apply As; go_simp; have cw6 := r_want gk E hE (u1) ⟨#[93]⟩; generalize wantR E (u1) ⟨#[93]⟩ = u2 at h cw6; apply Ar F; go_simp; refine ⟨_, cw6, ?_⟩; go_simp; obtain rfl := Oi h; apply Ar F; go_simp; apply Au; go_simp
  apply Ar F; go_simp; refine ⟨_, (decide_eq_false wj ▸ r_is gk E (u1) ⟨#[93]⟩), ?_⟩; go_simp; rw [if_pos (Or.inr wj)] at h; (repeat apply Aq); refine At (by go_simp) ?_; (repeat apply Aq); refine Ad F [0, 1, 2, 3, 4, 5, 6, 7] [(1, 3)] mixed (by kernel_rfl) ?_; go_simp; obtain ⟨n2, s2, hx2, h⟩ := bindR_some h; have c2 := IH f (Nr f) E hE _ _ (n2, s2) hx2; refine ⟨_, c2, ?_⟩; obtain ⟨k2, t2, m2, q2, l2, b2⟩ := n2; try dsimp only at h
  clear c2; clear hx2; go_simp; have cw7 := r_want gk E hE (s2) ⟨#[93]⟩; generalize wantR E (s2) ⟨#[93]⟩ = u2 at h cw7; apply Ar F; go_simp; apply Ar F; go_simp; refine ⟨_, cw7, ?_⟩; go_simp; obtain rfl := Oi h; apply Ar F; go_simp; apply Au; go_simp
open Go Go.RowKit Go.Proofs Th
set_option maxRecDepth 8000
attribute [local go_sem] txtA_nil txtB_nil txtC_nil List.map_append List.map_cons List.map_nil List.length_map
variable {G : World → CS → Prop}
theorem r_term (gk : GK G) (f : Nat) (IH : IHR G f) (E : Env) (hE : EB E) (s : St) (r : NJ × St) (h : stepR (runR f) E (.term) s = some r) : ACalls Tryz.prog G 127 (some (rdrIV E s)) [] (resR E r) := by
  simp only [stepR] at h; refine ACalls.enter Tryz.func127 rfl rfl gk Tryz.ntmps127 fun X F => ?_
  apply Ar F; go_simp; apply Ar F; go_simp; obtain ⟨n1, s1, hx1, h⟩ := bindR_some h; have c1 := IH f (Nr f) E hE _ _ (n1, s1) hx1; refine ⟨_, c1, ?_⟩; obtain ⟨k1, t1, m1, q1, l1, b1⟩ := n1; try dsimp only at h
  clear c1; clear hx1; go_simp; (repeat apply Aq); apply Ab; (repeat apply Aq); refine AW.loopP [0, 2, 3] [1000, 2, 3] (by decide) (fun g st => ∃ (n : NJ) (s3 : St) (fl : Fl), st = mkS [(0, .ptr 1000 0), (2, .ptr 2 0), (3, .ptr 3 0)] [(1000, .box ((rdrIV E s3).map .im)), (2, .box zeroN), (3, .box ((nodeF n fl).map .im))] ∧ g ≤ f ∧ runR g E (.termLoop n) s3 = some r) (f) ?_ ?_
  · refine ⟨(.mk k1 t1 m1 q1 l1 b1), s1, ⟨false, false⟩, ?_, Nr f, h⟩
    go_simp
  rintro g st ⟨n, s3, ⟨f1, f2⟩, rfl, hg, h⟩; rcases g with _ | g
  · cases h
  obtain ⟨k1, t1, m1, q1, l1, b1⟩ := n; simp only [runR, stepR] at h; by_cases w1 : s3.err ≠ 0
  · have vw1 : ¬ ((s3.err : Nat) : Int) = 0 := by omega
    rw [if_pos w1] at h; obtain rfl := Oi h; apply Ar F; go_simp; (repeat apply Aq); refine Af (by go_simp) ?_; apply Ae; go_simp; apply Ar F; go_simp; apply Au; go_simp
  rw [if_neg w1] at h; obtain ⟨i3, e3, a3⟩ := s3; obtain rfl : e3 = 0 := Dn w1; try dsimp only at h
  apply Ar F; go_simp; (repeat apply Aq); refine At (by go_simp) ?_; apply As; go_simp; (repeat apply Aq); apply Ab; apply Ar F; go_simp; refine ⟨_, r_kind gk E (⟨i3, 0, a3⟩), ?_⟩; go_simp; by_cases w3 : (tokAt E (i3)).kind = 3
  · rw [if_pos w3] at h
    have hj := tok_lt' (E := E) (i := i3) (by rw [w3]; decide); have hr := rng ((i3 : Int) + 1) (by have := hE.len; omega); rw [tok_lt hj] at h; apply Ar F; go_simp; (repeat apply Aq); refine At (by go_simp) ?_; (repeat apply Aq); refine Ad F [0, 1, 2, 3, 4, 5, 6, 7, 8, 9, 10, 11, 12, 13, 14] [(0, 12)] mixed (by kernel_rfl) ?_; go_simp; refine ⟨_, r_str gk E.l[i3].text, ?_⟩; go_simp; refine ⟨_, r_node gk 5 ⟨#[]⟩ (.mk k1 t1 m1 q1 l1 b1) (strJ E.l[i3].text), ?_⟩; go_simp; apply Ar F; go_simp; apply Ae; go_simp; refine ⟨g, by omega, (nodeJ 5 ⟨#[]⟩ (.mk k1 t1 m1 q1 l1 b1) (strJ E.l[i3].text)), St.next ⟨i3, 0, a3⟩, ⟨⟨false, false⟩, ?_⟩, by omega, h⟩; go_simp
  rw [if_neg w3] at h; have vw3 : ¬ ((tokAt E (i3)).kind : Int) = 3 := by omega
  apply Ar F; go_simp; (repeat apply Aq); refine Af (by go_simp) ?_; apply As; go_simp; by_cases w2 : hasR E (⟨i3, 0, a3⟩) ⟨#[63]⟩
  · rw [if_pos w2] at h
    apply Ar F; go_simp; refine ⟨_, r_has_yes gk E (⟨i3, 0, a3⟩) hE.len ⟨#[63]⟩ w2, ?_⟩; go_simp; (repeat apply Aq); refine At (by go_simp) ?_; apply Ar F; go_simp; apply Ae; go_simp; refine ⟨g, by omega, (kidsJ 18 [(.mk k1 t1 m1 q1 l1 b1)]), St.next ⟨i3, 0, a3⟩, ⟨⟨true, true⟩, ?_⟩, by omega, h⟩; go_simp
  rw [if_neg w2] at h; apply Ar F; go_simp; refine ⟨_, r_has_no gk E (⟨i3, 0, a3⟩) ⟨#[63]⟩ w2, ?_⟩; go_simp; (repeat apply Aq); refine Af (by go_simp) ?_; apply As; go_simp; by_cases w3 : hasR E (⟨i3, 0, a3⟩) ⟨#[46]⟩
  · rw [if_pos w3] at h
    apply Ar F; go_simp; refine ⟨_, r_has_yes gk E (⟨i3, 0, a3⟩) hE.len ⟨#[46]⟩ w3, ?_⟩; go_simp; apply Ar F; go_simp; refine ⟨_, r_kind gk E (St.next ⟨i3, 0, a3⟩), ?_⟩; go_simp; by_cases wk : (tokAt E ((St.next ⟨i3, 0, a3⟩).i)).kind = 5
    · rw [if_pos wk] at h
      have uwk : (tokAt E (i3 + 1)).kind = 5 := wk; (repeat apply Aq); refine At (by go_simp) ?_; (repeat apply Aq); refine Ad F [0, 1, 2, 3, 4] [(0, 2)] mixed (by kernel_rfl) ?_; go_simp; obtain ⟨n2, s2, hx2, h⟩ := bindR_some h; have c2 := (IH g (by omega) E hE _ _ (n2, s2) hx2) wk; refine ⟨_, c2, ?_⟩; obtain ⟨k2, t2, m2, q2, l2, b2⟩ := n2; try dsimp only at h
      clear c2; clear hx2; go_simp; refine ⟨_, r_node gk 5 ⟨#[]⟩ (.mk k1 t1 m1 q1 l1 b1) (.mk k2 t2 m2 q2 l2 b2), ?_⟩; go_simp; apply Ae; go_simp; refine ⟨g, by omega, (nodeJ 5 ⟨#[]⟩ (.mk k1 t1 m1 q1 l1 b1) (.mk k2 t2 m2 q2 l2 b2)), s2, ⟨⟨false, false⟩, ?_⟩, by omega, h⟩; go_simp
    rw [if_neg wk] at h; have uwk : ¬ (tokAt E (i3 + 1)).kind = 5 := wk; have vwk : ¬ ((tokAt E (i3 + 1)).kind : Int) = 5 := by omega
    (repeat apply Aq); refine Af (by go_simp) ?_; apply As; go_simp; by_cases w4 : hasR E (St.next ⟨i3, 0, a3⟩) ⟨#[91]⟩
    · rw [if_pos w4] at h
      apply Ar F; go_simp; refine ⟨_, r_has_yes gk E (St.next ⟨i3, 0, a3⟩) hE.len ⟨#[91]⟩ w4, ?_⟩; go_simp; (repeat apply Aq); refine At (by go_simp) ?_; apply Ar F; go_simp; obtain ⟨n2, s2, hx2, h⟩ := bindR_some h; have c2 := IH g (by omega) E hE _ _ (n2, s2) hx2; refine ⟨_, c2, ?_⟩; obtain ⟨k2, t2, m2, q2, l2, b2⟩ := n2; try dsimp only at h
      clear c2; clear hx2; go_simp; apply Ae; go_simp; refine ⟨g, by omega, (.mk k2 t2 m2 q2 l2 b2), s2, ⟨⟨false, false⟩, ?_⟩, by omega, h⟩; go_simp
    rw [if_neg w4] at h; apply Ar F; go_simp; refine ⟨_, r_has_no gk E (St.next ⟨i3, 0, a3⟩) ⟨#[91]⟩ w4, ?_⟩; go_simp; obtain rfl := Oi h; (repeat apply Aq); refine Af (by go_simp) ?_; apply As; go_simp; apply Ar F; go_simp; (repeat apply Aq); refine At (by go_simp) ?_; apply Ar F; go_simp; refine ⟨_, r_fail gk E hE (St.next ⟨i3, 0, a3⟩) 60, ?_⟩; go_simp; apply Ae; go_simp; apply Ar F; go_simp; apply Au; go_simp
  rw [if_neg w3] at h; apply Ar F; go_simp; refine ⟨_, r_has_no gk E (⟨i3, 0, a3⟩) ⟨#[46]⟩ w3, ?_⟩; go_simp; apply Ar F; go_simp; (repeat apply Aq); refine Af (by go_simp) ?_; apply As; go_simp; by_cases w5 : hasR E (⟨i3, 0, a3⟩) ⟨#[91]⟩
  · rw [if_pos w5] at h
    apply Ar F; go_simp; refine ⟨_, r_has_yes gk E (⟨i3, 0, a3⟩) hE.len ⟨#[91]⟩ w5, ?_⟩; go_simp; (repeat apply Aq); refine At (by go_simp) ?_; apply Ar F; go_simp; obtain ⟨n2, s2, hx2, h⟩ := bindR_some h; have c2 := IH g (by omega) E hE _ _ (n2, s2) hx2; refine ⟨_, c2, ?_⟩; obtain ⟨k2, t2, m2, q2, l2, b2⟩ := n2; try dsimp only at h
    clear c2; clear hx2; go_simp; apply Ae; go_simp; refine ⟨g, by omega, (.mk k2 t2 m2 q2 l2 b2), s2, ⟨⟨false, false⟩, ?_⟩, by omega, h⟩; go_simp
  rw [if_neg w5] at h; apply Ar F; go_simp; refine ⟨_, r_has_no gk E (⟨i3, 0, a3⟩) ⟨#[91]⟩ w5, ?_⟩; go_simp; obtain rfl := Oi h; (repeat apply Aq); refine Af (by go_simp) ?_; apply As; go_simp; apply Ar F; go_simp; (repeat apply Aq); refine Af (by go_simp) ?_; apply As; go_simp; apply Ae; go_simp; apply Ar F; go_simp; apply Au; go_simp
def RNumP (G : World → CS → Prop) : Prop := ∀ s : ByteArray, s.size ≤ 50000 → ACalls Tryz.prog G 133 none [sI s] (.ret (.tup [.agg [iI (parseN s.data.toList).1.1, iI (parseN s.data.toList).1.2], iI (parseN s.data.toList).2]) [])
theorem r_first (gk : GK G) (f : Nat) (IH : IHR G f) (E : Env) (hE : EB E) (s : St) (hNum : RNumP G) (r : NJ × St) (h : stepR (runR f) E (.first) s = some r) : ACalls Tryz.prog G 128 (some (rdrIV E s)) [] (resR E r) := by
  simp only [stepR] at h; refine ACalls.enter Tryz.func128 rfl rfl gk Tryz.ntmps128 fun X F => ?_
  by_cases w1 : s.err ≠ 0
  · have vw1 : ¬ ((s.err : Nat) : Int) = 0 := by omega
    rw [if_pos w1] at h; obtain rfl := Oi h; apply Ar F; go_simp; apply Ar F; go_simp; (repeat apply Aq); refine At (by go_simp) ?_; apply Ar F; go_simp; apply Au; go_simp
  rw [if_neg w1] at h; obtain ⟨i, e, a⟩ := s; obtain rfl : e = 0 := Dn w1; try dsimp only at h
  apply Ar F; go_simp; apply Ar F; go_simp; (repeat apply Aq); refine Af (by go_simp) ?_; apply As; go_simp; apply Ar F; go_simp; apply Ar F; go_simp; refine ⟨_, r_kind gk E (⟨i, 0, a⟩), ?_⟩; go_simp; (repeat apply Aq); apply Ab; by_cases w2 : (tokAt E (i)).kind = 1
  · rw [if_pos w2] at h
    apply Ar F; go_simp; (repeat apply Aq); refine At (by go_simp) ?_; apply Ar F; go_simp; obtain ⟨⟨k9, t9, m9, q9, l9, b9⟩, s9⟩ := r; have c9 := IH f (Nr f) E hE _ _ _ h; refine ⟨_, c9, ?_⟩; clear c9; go_simp; apply Au; go_simp
  rw [if_neg w2] at h; have vw2 : ¬ ((tokAt E (i)).kind : Int) = 1 := by omega
  apply Ar F; go_simp; (repeat apply Aq); refine Af (by go_simp) ?_; by_cases w3 : (tokAt E (i)).kind = 2
  · rw [if_pos w3] at h
    apply Ar F; go_simp; (repeat apply Aq); refine At (by go_simp) ?_; have cn4 := r_named gk E hE (⟨i, 0, a⟩) 2 (by decide); have hn4 := named_sz hE (⟨i, 0, a⟩) 2; generalize namedR E (⟨i, 0, a⟩) 2 = pn4 at h cn4 hn4; obtain ⟨nm, s2⟩ := pn4; dsimp only at h cn4 hn4; apply Ar F; go_simp; refine ⟨_, cn4, ?_⟩; go_simp; obtain rfl := Oi h; apply Au; go_simp
  rw [if_neg w3] at h; have vw3 : ¬ ((tokAt E (i)).kind : Int) = 2 := by omega
  apply Ar F; go_simp; (repeat apply Aq); refine Af (by go_simp) ?_; by_cases w3 : (tokAt E (i)).kind = 3
  · rw [if_pos w3] at h
    have hi := tok_lt' (E := E) (i := i) (by rw [w3]; decide); have hr := rng ((i : Int) + 1) (by have := hE.len; omega); have hr2 := rng ((i : Int)) (by omega); rw [tok_lt hi] at h; apply Ar F; go_simp; (repeat apply Aq); refine At (by go_simp) ?_; apply Ar F; go_simp; (repeat apply Aq); refine Ad F [0, 1, 2, 3, 4, 5, 6, 7, 8, 9, 10, 11, 12, 13, 14, 15] [(0, 13)] mixed (by kernel_rfl) ?_; go_simp; refine ⟨_, r_str gk E.l[i].text, ?_⟩; go_simp; refine ⟨_, r_node gk 5 ⟨#[]⟩ selfJ (strJ E.l[i].text), ?_⟩; go_simp; obtain rfl := Oi h; apply Au; go_simp
  rw [if_neg w3] at h; have vw3 : ¬ ((tokAt E (i)).kind : Int) = 3 := by omega
  apply Ar F; go_simp; (repeat apply Aq); refine Af (by go_simp) ?_; by_cases w4 : (tokAt E (i)).kind = 4
  · rw [if_pos w4] at h
    have hi := tok_lt' (E := E) (i := i) (by rw [w4]; decide); have hr := rng ((i : Int) + 1) (by have := hE.len; omega); have cn := hNum (tokAt E i).text (hE.tx _ (by rw [tok_lt hi]; exact List.getElem_mem hi)); have hp0 := parse_ge (tokAt E i).text.data.toList; obtain ⟨⟨⟨pm, pe⟩, pc⟩, hpr⟩ : ∃ p, parseN (tokAt E i).text.data.toList = p := ⟨_, rfl⟩
    rw [hpr] at cn h hp0; dsimp only at cn h hp0; clear hpr; rw [tok_lt hi] at cn; apply Ar F; go_simp; (repeat apply Aq); refine At (by go_simp) ?_; (repeat apply Aq); refine Ad F [0, 1, 2, 3, 4, 5, 6, 7, 8, 9, 10, 15, 11, 12, 13, 14, 16, 17] [(3, 15), (7, 15), (8, 15), (10, 15), (15, 11)] mixed (by kernel_rfl) ?_; go_simp; refine ⟨_, cn, ?_⟩; go_simp; by_cases we : pc = 10
    · subst we
      rw [if_pos rfl] at h; obtain rfl := Oi h; apply Ar F; go_simp; (repeat apply Aq); refine At (by go_simp) ?_; apply Ar F; go_simp; apply Ar F; go_simp; (repeat apply Aq); refine At (by go_simp) ?_; apply Ar F; go_simp; refine ⟨_, r_fail gk E hE (⟨i, 0, a⟩) 60, ?_⟩; go_simp; apply Au; go_simp
    rw [if_neg we] at h; by_cases wg : pc ≠ 0
    · rw [if_pos wg] at h
      obtain rfl := Oi h; obtain ⟨pn, rfl⟩ : ∃ pn : Nat, pc = pn := ⟨pc.toNat, by omega⟩
      have w0 : ¬ pn = 0 := by omega
      have w9 : ¬ (pn : Int) = 10 := by omega
      clear we wg; apply Ar F; go_simp; (repeat apply Aq); refine Af (by go_simp) ?_; apply As; go_simp; apply Ar F; go_simp; (repeat apply Aq); refine At (by go_simp) ?_; apply Ar F; go_simp; refine ⟨_, r_fail gk E hE (⟨i, 0, a⟩) pn, ?_⟩; go_simp; apply Au; go_simp
    obtain rfl : pc = 0 := Dn wg; rw [if_neg wg] at h; apply Ar F; go_simp; (repeat apply Aq); refine Af (by go_simp) ?_; apply As; go_simp; apply Ar F; go_simp; (repeat apply Aq); refine Af (by go_simp) ?_; apply As; go_simp; obtain rfl := Oi h; apply Ar F; go_simp; apply Ar F; go_simp; apply Au; go_simp
  rw [if_neg w4] at h; have vw4 : ¬ ((tokAt E (i)).kind : Int) = 4 := by omega
  apply Ar F; go_simp; (repeat apply Aq); refine Af (by go_simp) ?_; by_cases w5 : (tokAt E (i)).kind = 5
  · rw [if_pos w5] at h
    apply Ar F; go_simp; (repeat apply Aq); refine At (by go_simp) ?_; apply Ar F; go_simp; obtain ⟨⟨k9, t9, m9, q9, l9, b9⟩, s9⟩ := r; have c9 := (IH f (Nr f) E hE _ _ _ h) w5; refine ⟨_, c9, ?_⟩; clear c9; go_simp; apply Au; go_simp
  rw [if_neg w5] at h; have vw5 : ¬ ((tokAt E (i)).kind : Int) = 5 := by omega
  apply Ar F; go_simp; (repeat apply Aq); refine Af (by go_simp) ?_; apply As; go_simp; by_cases w5 : hasR E (⟨i, 0, a⟩) ⟨#[46]⟩
  · rw [if_pos w5] at h
    apply Ar F; go_simp; refine ⟨_, r_has_yes gk E (⟨i, 0, a⟩) hE.len ⟨#[46]⟩ w5, ?_⟩; go_simp; (repeat apply Aq); refine At (by go_simp) ?_; apply Ar F; go_simp; refine ⟨_, r_kind gk E (St.next ⟨i, 0, a⟩), ?_⟩; go_simp; by_cases wk : (tokAt E ((St.next ⟨i, 0, a⟩).i)).kind = 5
    · rw [if_pos wk] at h
      have uwk : (tokAt E (i + 1)).kind = 5 := wk; (repeat apply Aq); refine At (by go_simp) ?_; (repeat apply Aq); refine Ad F [0, 1, 2, 3, 4] [(0, 2)] mixed (by kernel_rfl) ?_; go_simp; obtain ⟨n1, s1, hx1, h⟩ := bindR_some h; have c1 := (IH f (Nr f) E hE _ _ (n1, s1) hx1) wk; refine ⟨_, c1, ?_⟩; obtain ⟨k1, t1, m1, q1, l1, b1⟩ := n1; try dsimp only at h
      clear c1; clear hx1; go_simp; refine ⟨_, r_node gk 5 ⟨#[]⟩ selfJ (.mk k1 t1 m1 q1 l1 b1), ?_⟩; go_simp; obtain rfl := Oi h; apply Au; go_simp
    rw [if_neg wk] at h; have uwk : ¬ (tokAt E (i + 1)).kind = 5 := wk; have vwk : ¬ ((tokAt E (i + 1)).kind : Int) = 5 := by omega
    (repeat apply Aq); refine Af (by go_simp) ?_; apply As; go_simp; obtain rfl := Oi h; apply Ar F; go_simp; apply Au; go_simp
  rw [if_neg w5] at h; apply Ar F; go_simp; refine ⟨_, r_has_no gk E (⟨i, 0, a⟩) ⟨#[46]⟩ w5, ?_⟩; go_simp; (repeat apply Aq); refine Af (by go_simp) ?_; apply As; go_simp; by_cases w6 : hasR E (⟨i, 0, a⟩) ⟨#[46, 46]⟩
  · rw [if_pos w6] at h
    apply Ar F; go_simp; refine ⟨_, r_has_yes gk E (⟨i, 0, a⟩) hE.len ⟨#[46, 46]⟩ w6, ?_⟩; go_simp; (repeat apply Aq); refine At (by go_simp) ?_; obtain rfl := Oi h; apply Ar F; go_simp; apply Au; go_simp
  rw [if_neg w6] at h; apply Ar F; go_simp; refine ⟨_, r_has_no gk E (⟨i, 0, a⟩) ⟨#[46, 46]⟩ w6, ?_⟩; go_simp; (repeat apply Aq); refine Af (by go_simp) ?_; apply As; go_simp; by_cases w7 : hasR E (⟨i, 0, a⟩) ⟨#[40]⟩
  · rw [if_pos w7] at h
    apply Ar F; go_simp; refine ⟨_, r_has_yes gk E (⟨i, 0, a⟩) hE.len ⟨#[40]⟩ w7, ?_⟩; go_simp; (repeat apply Aq); refine At (by go_simp) ?_; apply Ar F; go_simp; obtain ⟨n1, s1, hx1, h⟩ := bindR_some h; have c1 := IH f (Nr f) E hE _ _ (n1, s1) hx1; refine ⟨_, c1, ?_⟩; obtain ⟨k1, t1, m1, q1, l1, b1⟩ := n1; try dsimp only at h
    clear c1; clear hx1; go_simp; have cw8 := r_want gk E hE (s1) ⟨#[41]⟩; generalize wantR E (s1) ⟨#[41]⟩ = u1 at h cw8; apply Ar F; go_simp; refine ⟨_, cw8, ?_⟩; go_simp; obtain rfl := Oi h; apply Ar F; go_simp; apply Au; go_simp
  rw [if_neg w7] at h; apply Ar F; go_simp; refine ⟨_, r_has_no gk E (⟨i, 0, a⟩) ⟨#[40]⟩ w7, ?_⟩; go_simp; (repeat apply Aq); refine Af (by go_simp) ?_; apply As; go_simp; by_cases w9 : hasR E (⟨i, 0, a⟩) ⟨#[91]⟩
  · rw [if_pos w9] at h
    apply Ar F; go_simp; refine ⟨_, r_has_yes gk E (⟨i, 0, a⟩) hE.len ⟨#[91]⟩ w9, ?_⟩; go_simp; (repeat apply Aq); refine At (by go_simp) ?_; by_cases w10 : hasR E (St.next ⟨i, 0, a⟩) ⟨#[93]⟩
    · rw [if_pos w10] at h
      apply Ar F; go_simp; apply Ar F; go_simp; refine ⟨_, r_has_yes gk E (St.next ⟨i, 0, a⟩) hE.len ⟨#[93]⟩ w10, ?_⟩; go_simp; (repeat apply Aq); refine Af (by go_simp) ?_; apply As; go_simp; obtain rfl := Oi h; apply Ar F; go_simp; apply Au; go_simp
    rw [if_neg w10] at h; apply Ar F; go_simp; apply Ar F; go_simp; refine ⟨_, r_has_no gk E (St.next ⟨i, 0, a⟩) ⟨#[93]⟩ w10, ?_⟩; go_simp; (repeat apply Aq); refine At (by go_simp) ?_; apply Ar F; go_simp; obtain ⟨n1, s1, hx1, h⟩ := bindR_some h; have c1 := IH f (Nr f) E hE _ _ (n1, s1) hx1; refine ⟨_, c1, ?_⟩; obtain ⟨k1, t1, m1, q1, l1, b1⟩ := n1; try dsimp only at h
    clear c1; clear hx1; go_simp; have cw11 := r_want gk E hE (s1) ⟨#[93]⟩; generalize wantR E (s1) ⟨#[93]⟩ = u1 at h cw11; apply Ar F; go_simp; refine ⟨_, cw11, ?_⟩; go_simp; obtain rfl := Oi h; apply Ar F; go_simp; apply Au; go_simp
  rw [if_neg w9] at h; apply Ar F; go_simp; refine ⟨_, r_has_no gk E (⟨i, 0, a⟩) ⟨#[91]⟩ w9, ?_⟩; go_simp; (repeat apply Aq); refine Af (by go_simp) ?_; apply As; go_simp; by_cases w12 : hasR E (⟨i, 0, a⟩) ⟨#[123]⟩
  · rw [if_pos w12] at h
    apply Ar F; go_simp; refine ⟨_, r_has_yes gk E (⟨i, 0, a⟩) hE.len ⟨#[123]⟩ w12, ?_⟩; go_simp; (repeat apply Aq); refine At (by go_simp) ?_; apply Ar F; go_simp; obtain ⟨⟨k9, t9, m9, q9, l9, b9⟩, s9⟩ := r; have c9 := IH f (Nr f) E hE _ _ _ h; refine ⟨_, c9, ?_⟩; clear c9; go_simp; apply Au; go_simp
  rw [if_neg w12] at h; apply Ar F; go_simp; refine ⟨_, r_has_no gk E (⟨i, 0, a⟩) ⟨#[123]⟩ w12, ?_⟩; go_simp; (repeat apply Aq); refine Af (by go_simp) ?_; apply As; go_simp; obtain rfl := Oi h; apply Ar F; go_simp; refine ⟨_, r_fail gk E hE (⟨i, 0, a⟩) 60, ?_⟩; go_simp; apply Au; go_simp
end Go.Proofs.YtinknjhclpaieaaGreatDoor
