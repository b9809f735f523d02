/- Lemmas and contracts for the laws SyntaxPieces, part 35 of 48: R10B, SynI. Conditions: those that each lemma names. -/
import Derived.Test.YtinknjhclpaieaaGreatDoorPq29
import Derived.Test.YtinknjhclpaieaaGreatDoorPq17
import Derived.Test.YtinknjhclpaieaaGreatDoorPq34
set_option maxRecDepth 100000
set_option maxHeartbeats 4000000
namespace Go.Proofs.YtinknjhclpaieaaGreatDoor
open Go Go.RowKit Go.Proofs Th
set_option maxRecDepth 8000
def resR (E : Env) (r : NJ × St) : ARes := .ret (.agg (nodeIV r.1)) (rdrIV E r.2)
attribute [local go_sem] aops aopsD stepA chkD disj aguard isWant aop aval abuil acall acallP acallR argsIV valOf aput startS mkS numb look upd toIV allIV zeroFV aload setSeg afill aelems cellsOf toSl toVal valsOf aidx abin ainR FV.ok IV.one IV.er IV.erA IV.er1 iI sI bI nodeIV nodesIV tokIV parIV faultV resP lift AThen ABlock AEnd resL resV rload rcOf imsOf oneV nodeJ kidsJ strJ knownJ selfJ noNJ noTf foot owns pruneS filtF filtO Value.oneCell'
attribute [local go_sem] ti_node ti_tok ti_par ti_fault ti_nodes ti_toks ti_strs ti_ints ti_str ti_int ti_num ti_errno
attribute [local go_sem] rdrIV ti_rdr St.next sel -- ATT
attribute [local go_sem] resR zeroN nodesIV_append nodesIV_len kidC rowC nodeF -- END
variable {G : World → CS → Prop}
def ConR (G : World → CS → Prop) (E : Env) (s : St) (r : NJ × St) : RJob → Prop
  | .filter => ACalls Tryz.prog G 20 (some (rdrIV E s)) [] (resR E r)
  | .list => ACalls Tryz.prog G 40 (some (rdrIV E s)) [] (resR E r)
  | .other => ACalls Tryz.prog G 61 (some (rdrIV E s)) [] (resR E r)
  | .set => ACalls Tryz.prog G 69 (some (rdrIV E s)) [] (resR E r)
  | .either => ACalls Tryz.prog G 77 (some (rdrIV E s)) [] (resR E r)
  | .both => ACalls Tryz.prog G 88 (some (rdrIV E s)) [] (resR E r)
  | .test => ACalls Tryz.prog G 102 (some (rdrIV E s)) [] (resR E r)
  | .sum => ACalls Tryz.prog G 115 (some (rdrIV E s)) [] (resR E r)
  | .product => ACalls Tryz.prog G 121 (some (rdrIV E s)) [] (resR E r)
  | .minus => ACalls Tryz.prog G 125 (some (rdrIV E s)) [] (resR E r)
  | .term => ACalls Tryz.prog G 127 (some (rdrIV E s)) [] (resR E r)
  | .whole => ACalls Tryz.prog G 14 (some (rdrIV E s)) [] (resR E r)
  | .first => ACalls Tryz.prog G 128 (some (rdrIV E s)) [] (resR E r)
  | .object => ACalls Tryz.prog G 134 (some (rdrIV E s)) [] (resR E r)
  | .word => ACalls Tryz.prog G 132 (some (rdrIV E s)) [] (resR E r)
  | .branch => ACalls Tryz.prog G 137 (some (rdrIV E s)) [] (resR E r)
  | .index x => ACalls Tryz.prog G 131 (some (rdrIV E s)) [.agg (nodeIV x)] (resR E r)
  | .text => (tokAt E s.i).kind = 5 → ACalls Tryz.prog G 130 (some (rdrIV E s)) [] (resR E r)
  | _ => True
def IHR (G : World → CS → Prop) (f : Nat) : Prop := ∀ g, g ≤ f → ∀ E, EB E → ∀ job s r, runR g E job s = some r → ConR G E s r job
theorem named_sz {E : Env} (hE : EB E) (s : St) (k : Nat) : (namedR E s k).1.size ≤ 50000 := by
  unfold namedR; split
  · exact Nat.zero_le _
  rcases Nat.lt_or_ge s.i E.l.length with h | h
  · rw [tok_lt h]; exact hE.tx _ (List.getElem_mem h)
  rw [tok_ge (by omega)]; exact Nat.zero_le _
theorem r_any_or (gk : GK G) (E : Env) (hE : EB E) (s : St) (l : List ByteArray) (hl : l.length ≤ 1000) : ∃ tx b s2, ACalls Tryz.prog G 78 (some (rdrIV E s)) [.sl (l.map fun x => [sI x]) false] (.ret (.tup [sI tx, bI b]) (rdrIV E s2)) ∧ ((b = true ∧ anyR E s l ∧ tx = (tokAt E s.i).text ∧ s2 = s.next) ∨ (b = false ∧ ¬ anyR E s l ∧ s2 = s)) := by
  by_cases h : anyR E s l
  · exact ⟨_, _, _, r_any_yes gk E hE s l hl h, Or.inl ⟨rfl, h, rfl, rfl⟩⟩
  exact ⟨_, _, _, r_any_no gk E s l hl h, Or.inr ⟨rfl, h, rfl⟩⟩
theorem r_list (gk : GK G) (f : Nat) (IH : IHR G f) (E : Env) (hE : EB E) (s : St) (r : NJ × St) (h : stepR (runR f) E (.list) s = some r) : ACalls Tryz.prog G 40 (some (rdrIV E s)) [] (resR E r) := by
  simp only [stepR] at h; refine ACalls.enter Tryz.func40 rfl rfl gk Tryz.ntmps40 fun X F => ?_
  apply Ar F; go_simp; apply Ar F; go_simp; obtain ⟨n1, s1, hx1, h⟩ := bindR_some h; have c1 := IH f (Nr f) E hE _ _ (n1, s1) hx1; refine ⟨_, c1, ?_⟩; obtain ⟨k1, t1, m1, q1, l1, b1⟩ := n1; try dsimp only at h
  clear c1; clear hx1; go_simp; (repeat apply Aq); apply Ab; (repeat apply Aq); refine AW.loopP [0, 2, 3] [1000, 2, 3] (by decide) (fun g st => ∃ (n : NJ) (s1 : St), st = mkS [(0, .ptr 1000 0), (2, .ptr 2 0), (3, .ptr 3 0)] [(1000, .box ((rdrIV E s1).map .im)), (2, .box zeroN), (3, .box ((nodeIV n).map .im))] ∧ g ≤ f ∧ runR g E (.listLoop n) s1 = some r) (f) ?_ ?_
  · refine ⟨(.mk k1 t1 m1 q1 l1 b1), s1, ?_, Nr f, h⟩
    go_simp
  rintro g st ⟨n, s3, rfl, hg, h⟩; rcases g with _ | g
  · cases h
  obtain ⟨k1, t1, m1, q1, l1, b1⟩ := n; simp only [runR, stepR] at h; by_cases w1 : hasR E (s3) ⟨#[44]⟩
  · rw [if_pos w1] at h
    apply Ar F; go_simp; refine ⟨_, r_has_yes gk E (s3) hE.len ⟨#[44]⟩ w1, ?_⟩; go_simp; (repeat apply Aq); refine At (by go_simp) ?_; apply As; go_simp; (repeat apply Aq); apply Ab; (repeat apply Aq); refine Ad F [0, 1, 2, 3, 4] [(0, 2)] mixed (by kernel_rfl) ?_; go_simp; obtain ⟨n2, s2, hx2, h⟩ := bindR_some h; have c2 := IH g (by omega) E hE _ _ (n2, s2) hx2; refine ⟨_, c2, ?_⟩; obtain ⟨k2, t2, m2, q2, l2, b2⟩ := n2; try dsimp only at h
    clear c2; clear hx2; go_simp; refine ⟨_, r_node gk 9 ⟨#[]⟩ (.mk k1 t1 m1 q1 l1 b1) (.mk k2 t2 m2 q2 l2 b2), ?_⟩; go_simp; refine ⟨g, by omega, (nodeJ 9 ⟨#[]⟩ (.mk k1 t1 m1 q1 l1 b1) (.mk k2 t2 m2 q2 l2 b2)), s2, ?_, by omega, h⟩; go_simp
  rw [if_neg w1] at h; apply Ar F; go_simp; refine ⟨_, r_has_no gk E (s3) ⟨#[44]⟩ w1, ?_⟩; go_simp; obtain rfl := Oi h; (repeat apply Aq); refine Af (by go_simp) ?_; apply Ae; go_simp; apply Ar F; go_simp; apply Au; go_simp
theorem r_either (gk : GK G) (f : Nat) (IH : IHR G f) (E : Env) (hE : EB E) (s : St) (r : NJ × St) (h : stepR (runR f) E (.either) s = some r) : ACalls Tryz.prog G 77 (some (rdrIV E s)) [] (resR E r) := by
  simp only [stepR] at h; refine ACalls.enter Tryz.func77 rfl rfl gk Tryz.ntmps77 fun X F => ?_
  apply Ar F; go_simp; apply Ar F; go_simp; obtain ⟨n1, s1, hx1, h⟩ := bindR_some h; have c1 := IH f (Nr f) E hE _ _ (n1, s1) hx1; refine ⟨_, c1, ?_⟩; obtain ⟨k1, t1, m1, q1, l1, b1⟩ := n1; try dsimp only at h
  clear c1; clear hx1; go_simp; (repeat apply Aq); apply Ab; (repeat apply Aq); refine AW.loopP [0, 2, 3] [1000, 2, 3] (by decide) (fun g st => ∃ (n : NJ) (s1 : St), st = mkS [(0, .ptr 1000 0), (2, .ptr 2 0), (3, .ptr 3 0)] [(1000, .box ((rdrIV E s1).map .im)), (2, .box zeroN), (3, .box ((nodeIV n).map .im))] ∧ g ≤ f ∧ runR g E (.eitherLoop n) s1 = some r) (f) ?_ ?_
  · refine ⟨(.mk k1 t1 m1 q1 l1 b1), s1, ?_, Nr f, h⟩
    go_simp
  rintro g st ⟨n, s3, rfl, hg, h⟩; rcases g with _ | g
  · cases h
  obtain ⟨k1, t1, m1, q1, l1, b1⟩ := n; simp only [runR, stepR] at h; by_cases w1 : hasR E (s3) ⟨#[111, 114]⟩
  · rw [if_pos w1] at h
    apply Ar F; go_simp; refine ⟨_, r_has_yes gk E (s3) hE.len ⟨#[111, 114]⟩ w1, ?_⟩; go_simp; (repeat apply Aq); refine At (by go_simp) ?_; apply As; go_simp; (repeat apply Aq); apply Ab; (repeat apply Aq); refine Ad F [0, 1, 2, 3, 4] [(0, 2)] mixed (by kernel_rfl) ?_; go_simp; obtain ⟨n2, s2, hx2, h⟩ := bindR_some h; have c2 := IH g (by omega) E hE _ _ (n2, s2) hx2; refine ⟨_, c2, ?_⟩; obtain ⟨k2, t2, m2, q2, l2, b2⟩ := n2; try dsimp only at h
    clear c2; clear hx2; go_simp; refine ⟨_, r_node gk 12 ⟨#[]⟩ (.mk k1 t1 m1 q1 l1 b1) (.mk k2 t2 m2 q2 l2 b2), ?_⟩; go_simp; refine ⟨g, by omega, (nodeJ 12 ⟨#[]⟩ (.mk k1 t1 m1 q1 l1 b1) (.mk k2 t2 m2 q2 l2 b2)), s2, ?_, by omega, h⟩; go_simp
  rw [if_neg w1] at h; apply Ar F; go_simp; refine ⟨_, r_has_no gk E (s3) ⟨#[111, 114]⟩ w1, ?_⟩; go_simp; obtain rfl := Oi h; (repeat apply Aq); refine Af (by go_simp) ?_; apply Ae; go_simp; apply Ar F; go_simp; apply Au; go_simp
theorem r_both (gk : GK G) (f : Nat) (IH : IHR G f) (E : Env) (hE : EB E) (s : St) (r : NJ × St) (h : stepR (runR f) E (.both) s = some r) : ACalls Tryz.prog G 88 (some (rdrIV E s)) [] (resR E r) := by
  simp only [stepR] at h; refine ACalls.enter Tryz.func88 rfl rfl gk Tryz.ntmps88 fun X F => ?_
  apply Ar F; go_simp; apply Ar F; go_simp; obtain ⟨n1, s1, hx1, h⟩ := bindR_some h; have c1 := IH f (Nr f) E hE _ _ (n1, s1) hx1; refine ⟨_, c1, ?_⟩; obtain ⟨k1, t1, m1, q1, l1, b1⟩ := n1; try dsimp only at h
  clear c1; clear hx1; go_simp; (repeat apply Aq); apply Ab; (repeat apply Aq); refine AW.loopP [0, 2, 3] [1000, 2, 3] (by decide) (fun g st => ∃ (n : NJ) (s1 : St), st = mkS [(0, .ptr 1000 0), (2, .ptr 2 0), (3, .ptr 3 0)] [(1000, .box ((rdrIV E s1).map .im)), (2, .box zeroN), (3, .box ((nodeIV n).map .im))] ∧ g ≤ f ∧ runR g E (.bothLoop n) s1 = some r) (f) ?_ ?_
  · refine ⟨(.mk k1 t1 m1 q1 l1 b1), s1, ?_, Nr f, h⟩
    go_simp
  rintro g st ⟨n, s3, rfl, hg, h⟩; rcases g with _ | g
  · cases h
  obtain ⟨k1, t1, m1, q1, l1, b1⟩ := n; simp only [runR, stepR] at h; by_cases w1 : hasR E (s3) ⟨#[97, 110, 100]⟩
  · rw [if_pos w1] at h
    apply Ar F; go_simp; refine ⟨_, r_has_yes gk E (s3) hE.len ⟨#[97, 110, 100]⟩ w1, ?_⟩; go_simp; (repeat apply Aq); refine At (by go_simp) ?_; apply As; go_simp; (repeat apply Aq); apply Ab; (repeat apply Aq); refine Ad F [0, 1, 2, 3, 4] [(0, 2)] mixed (by kernel_rfl) ?_; go_simp; obtain ⟨n2, s2, hx2, h⟩ := bindR_some h; have c2 := IH g (by omega) E hE _ _ (n2, s2) hx2; refine ⟨_, c2, ?_⟩; obtain ⟨k2, t2, m2, q2, l2, b2⟩ := n2; try dsimp only at h
    clear c2; clear hx2; go_simp; refine ⟨_, r_node gk 11 ⟨#[]⟩ (.mk k1 t1 m1 q1 l1 b1) (.mk k2 t2 m2 q2 l2 b2), ?_⟩; go_simp; refine ⟨g, by omega, (nodeJ 11 ⟨#[]⟩ (.mk k1 t1 m1 q1 l1 b1) (.mk k2 t2 m2 q2 l2 b2)), s2, ?_, by omega, h⟩; go_simp
  rw [if_neg w1] at h; apply Ar F; go_simp; refine ⟨_, r_has_no gk E (s3) ⟨#[97, 110, 100]⟩ w1, ?_⟩; go_simp; obtain rfl := Oi h; (repeat apply Aq); refine Af (by go_simp) ?_; apply Ae; go_simp; apply Ar F; go_simp; apply Au; go_simp
theorem r_other (gk : GK G) (f : Nat) (IH : IHR G f) (E : Env) (hE : EB E) (s : St) (r : NJ × St) (h : stepR (runR f) E (.other) s = some r) : ACalls Tryz.prog G 61 (some (rdrIV E s)) [] (resR E r) := by
  simp only [stepR] at h; refine ACalls.enter Tryz.func61 rfl rfl gk Tryz.ntmps61 fun X F => ?_
  apply Ar F; go_simp; apply Ar F; go_simp; obtain ⟨n1, s1, hx1, h⟩ := bindR_some h; have c1 := IH f (Nr f) E hE _ _ (n1, s1) hx1; refine ⟨_, c1, ?_⟩; obtain ⟨k1, t1, m1, q1, l1, b1⟩ := n1; try dsimp only at h
  clear c1; clear hx1; go_simp; by_cases w1 : hasR E (s1) ⟨#[47, 47]⟩
  · rw [if_pos w1] at h
    apply Ar F; go_simp; refine ⟨_, r_has_yes gk E (s1) hE.len ⟨#[47, 47]⟩ w1, ?_⟩; go_simp; (repeat apply Aq); refine At (by go_simp) ?_; (repeat apply Aq); refine Ad F [0, 1, 2, 3, 4] [(0, 2)] mixed (by kernel_rfl) ?_; go_simp; obtain ⟨n2, s2, hx2, h⟩ := bindR_some h; have c2 := IH f (Nr f) E hE _ _ (n2, s2) hx2; refine ⟨_, c2, ?_⟩; obtain ⟨k2, t2, m2, q2, l2, b2⟩ := n2; try dsimp only at h
    clear c2; clear hx2; go_simp; refine ⟨_, r_node gk 13 ⟨#[]⟩ (.mk k1 t1 m1 q1 l1 b1) (.mk k2 t2 m2 q2 l2 b2), ?_⟩; go_simp; obtain rfl := Oi h; apply Au; go_simp
  rw [if_neg w1] at h; apply Ar F; go_simp; refine ⟨_, r_has_no gk E (s1) ⟨#[47, 47]⟩ w1, ?_⟩; go_simp; obtain rfl := Oi h; (repeat apply Aq); refine Af (by go_simp) ?_; apply As; go_simp; apply Ar F; go_simp; apply Au; go_simp
theorem r_set (gk : GK G) (f : Nat) (IH : IHR G f) (E : Env) (hE : EB E) (s : St) (r : NJ × St) (h : stepR (runR f) E (.set) s = some r) : ACalls Tryz.prog G 69 (some (rdrIV E s)) [] (resR E r) := by
  simp only [stepR] at h; refine ACalls.enter Tryz.func69 rfl rfl gk Tryz.ntmps69 fun X F => ?_
  apply Ar F; go_simp; apply Ar F; go_simp; obtain ⟨n1, s1, hx1, h⟩ := bindR_some h; have c1 := IH f (Nr f) E hE _ _ (n1, s1) hx1; refine ⟨_, c1, ?_⟩; obtain ⟨k1, t1, m1, q1, l1, b1⟩ := n1; try dsimp only at h
  clear c1; clear hx1; go_simp; by_cases w1 : anyR E (s1) sets7
  · rw [if_pos w1] at h
    apply Ar F; go_simp; refine ⟨_, r_any_yes gk E hE (s1) sets7 (by decide) w1, ?_⟩; go_simp; apply Ar F; go_simp; (repeat apply Aq); refine At (by go_simp) ?_; (repeat apply Aq); refine Ad F [0, 1, 2, 3, 4, 5] [(1, 3)] mixed (by kernel_rfl) ?_; go_simp; obtain ⟨n2, s2, hx2, h⟩ := bindR_some h; have c2 := IH f (Nr f) E hE _ _ (n2, s2) hx2; refine ⟨_, c2, ?_⟩; obtain ⟨k2, t2, m2, q2, l2, b2⟩ := n2; try dsimp only at h
    clear c2; clear hx2; go_simp; refine ⟨_, r_node gk 25 (tokAt E s1.i).text (.mk k1 t1 m1 q1 l1 b1) (.mk k2 t2 m2 q2 l2 b2), ?_⟩; go_simp; obtain rfl := Oi h; apply Au; go_simp
  rw [if_neg w1] at h; apply Ar F; go_simp; refine ⟨_, r_any_no gk E (s1) sets7 (by decide) w1, ?_⟩; go_simp; obtain rfl := Oi h; apply Ar F; go_simp; (repeat apply Aq); refine Af (by go_simp) ?_; apply As; go_simp; apply Ar F; go_simp; apply Au; go_simp
theorem r_test (gk : GK G) (f : Nat) (IH : IHR G f) (E : Env) (hE : EB E) (s : St) (r : NJ × St) (h : stepR (runR f) E (.test) s = some r) : ACalls Tryz.prog G 102 (some (rdrIV E s)) [] (resR E r) := by
  simp only [stepR] at h; refine ACalls.enter Tryz.func102 rfl rfl gk Tryz.ntmps102 fun X F => ?_
  apply Ar F; go_simp; apply Ar F; go_simp; obtain ⟨n1, s1, hx1, h⟩ := bindR_some h; have c1 := IH f (Nr f) E hE _ _ (n1, s1) hx1; refine ⟨_, c1, ?_⟩; obtain ⟨k1, t1, m1, q1, l1, b1⟩ := n1; try dsimp only at h
  clear c1; clear hx1; go_simp; by_cases w1 : anyR E (s1) tests6
  · rw [if_pos w1] at h
    apply Ar F; go_simp; refine ⟨_, r_any_yes gk E hE (s1) tests6 (by decide) w1, ?_⟩; go_simp; apply Ar F; go_simp; (repeat apply Aq); refine At (by go_simp) ?_; (repeat apply Aq); refine Ad F [0, 1, 2, 3, 4, 5] [(1, 3)] mixed (by kernel_rfl) ?_; go_simp; obtain ⟨n2, s2, hx2, h⟩ := bindR_some h; have c2 := IH f (Nr f) E hE _ _ (n2, s2) hx2; refine ⟨_, c2, ?_⟩; obtain ⟨k2, t2, m2, q2, l2, b2⟩ := n2; try dsimp only at h
    clear c2; clear hx2; go_simp; refine ⟨_, r_node gk 10 (tokAt E s1.i).text (.mk k1 t1 m1 q1 l1 b1) (.mk k2 t2 m2 q2 l2 b2), ?_⟩; go_simp; obtain rfl := Oi h; apply Au; go_simp
  rw [if_neg w1] at h; apply Ar F; go_simp; refine ⟨_, r_any_no gk E (s1) tests6 (by decide) w1, ?_⟩; go_simp; obtain rfl := Oi h; apply Ar F; go_simp; (repeat apply Aq); refine Af (by go_simp) ?_; apply As; go_simp; apply Ar F; go_simp; apply Au; go_simp
theorem sum_step {f : Nat} {E : Env} {s s2 : St} {n : NJ} {r : NJ × St} {tx : ByteArray} {b : Bool} (h : stepR (runR f) E (.sumLoop n) s = some r) (hb : (b = true ∧ anyR E s sums2 ∧ tx = (tokAt E s.i).text ∧ s2 = s.next) ∨ (b = false ∧ ¬ anyR E s sums2 ∧ s2 = s)) : (b = true → bindR (runR f E .product s2) (fun m s3 => runR f E (.sumLoop (nodeJ 10 tx n m)) s3) = some r) ∧ (b = false → r = (n, s2)) := by
  simp only [stepR] at h; rcases hb with ⟨rfl, ha, rfl, rfl⟩ | ⟨rfl, ha, rfl⟩
  · rw [if_pos ha] at h; exact ⟨fun _ => h, fun e => (by cases e)⟩
  rw [if_neg ha] at h; exact ⟨fun e => (by cases e), fun _ => (Oi h).symm⟩
theorem r_sum (gk : GK G) (f : Nat) (IH : IHR G f) (E : Env) (hE : EB E) (s : St) (r : NJ × St) (h : stepR (runR f) E (.sum) s = some r) : ACalls Tryz.prog G 115 (some (rdrIV E s)) [] (resR E r) := by
  simp only [stepR] at h; refine ACalls.enter Tryz.func115 rfl rfl gk Tryz.ntmps115 fun X F => ?_
  apply Ar F; go_simp; apply Ar F; go_simp; obtain ⟨n1, s1, hx1, h⟩ := bindR_some h; have c1 := IH f (Nr f) E hE _ _ (n1, s1) hx1; refine ⟨_, c1, ?_⟩; obtain ⟨k1, t1, m1, q1, l1, b1⟩ := n1; try dsimp only at h
  clear c1; clear hx1; go_simp; rcases f with _ | f
  · cases h
  obtain ⟨tx1, b1x, s4, ca, hb⟩ := r_any_or gk E hE s1 sums2 (by decide); obtain ⟨h1, h2⟩ := sum_step h hb; clear hb h; apply Ar F; go_simp; refine ⟨_, ca, ?_⟩; go_simp; (repeat apply Aq); apply Ab; (repeat apply Aq); refine AW.loopP [0, 2, 3, 4, 5] [1000, 2, 3] (by decide) (fun g st => ∃ (n : NJ) (s1 : St) (tx : ByteArray) (fl : Fl), st = mkS [(0, .ptr 1000 0), (2, .ptr 2 0), (3, .ptr 3 0), (4, .im (sI tx)), (5, .im (bI fl.a))] [(1000, .box ((rdrIV E s1).map .im)), (2, .box zeroN), (3, .box ((nodeIV n).map .im))] ∧ (fl.a = true → ∃ g2, g = g2 + 1 ∧ g2 ≤ f ∧ bindR (runR g2 E .product s1) (fun m s3 => runR g2 E (.sumLoop (nodeJ 10 tx n m)) s3) = some r) ∧ (fl.a = false → r = (n, s1))) (f + 1) ?_ ?_
  · refine ⟨(.mk k1 t1 m1 q1 l1 b1), s4, tx1, ⟨b1x, false⟩, ?_, fun hb => ⟨f, rfl, Nr f, h1 hb⟩, h2⟩
    go_simp
  rintro g st ⟨n, s3, tx, ⟨b, bx⟩, rfl, hT, hF⟩; dsimp only at hT hF; obtain ⟨k1, t1, m1, q1, l1, b1⟩ := n; cases b
  · obtain rfl := hF rfl
    clear hT hF; apply Ar F; go_simp; (repeat apply Aq); refine Af (by go_simp) ?_; apply Ae; go_simp; apply Ar F; go_simp; apply Au; go_simp
  obtain ⟨g, rfl, hg, h⟩ := hT rfl; clear hT hF; apply Ar F; go_simp; (repeat apply Aq); refine At (by go_simp) ?_; apply As; go_simp; (repeat apply Aq); apply Ab; (repeat apply Aq); refine Ad F [0, 1, 2, 3, 4, 5] [(1, 3)] mixed (by kernel_rfl) ?_; go_simp; obtain ⟨n2, s2, hx2, h⟩ := bindR_some h; have c2 := IH g (by omega) E hE _ _ (n2, s2) hx2; refine ⟨_, c2, ?_⟩; obtain ⟨k2, t2, m2, q2, l2, b2⟩ := n2; try dsimp only at h
  clear c2; clear hx2; go_simp; refine ⟨_, r_node gk 10 tx (.mk k1 t1 m1 q1 l1 b1) (.mk k2 t2 m2 q2 l2 b2), ?_⟩; go_simp; rcases g with _ | g
  · cases h
  obtain ⟨tx2, bb, s4, ca, hb⟩ := r_any_or gk E hE s2 sums2 (by decide); obtain ⟨h1, h2⟩ := sum_step h hb; apply Ar F; go_simp; refine ⟨_, ca, ?_⟩; go_simp; refine ⟨g + 1, by omega, (nodeJ 10 tx (.mk k1 t1 m1 q1 l1 b1) (.mk k2 t2 m2 q2 l2 b2)), s4, tx2, ⟨bb, false⟩, ?_, fun hb => ⟨g, rfl, by omega, h1 hb⟩, h2⟩; go_simp
theorem product_step {f : Nat} {E : Env} {s s2 : St} {n : NJ} {r : NJ × St} {tx : ByteArray} {b : Bool} (h : stepR (runR f) E (.productLoop n) s = some r) (hb : (b = true ∧ anyR E s products3 ∧ tx = (tokAt E s.i).text ∧ s2 = s.next) ∨ (b = false ∧ ¬ anyR E s products3 ∧ s2 = s)) : (b = true → bindR (runR f E .minus s2) (fun m s3 => runR f E (.productLoop (nodeJ 10 tx n m)) s3) = some r) ∧ (b = false → r = (n, s2)) := by
  simp only [stepR] at h; rcases hb with ⟨rfl, ha, rfl, rfl⟩ | ⟨rfl, ha, rfl⟩
  · rw [if_pos ha] at h; exact ⟨fun _ => h, fun e => (by cases e)⟩
  rw [if_neg ha] at h; exact ⟨fun e => (by cases e), fun _ => (Oi h).symm⟩
theorem r_product (gk : GK G) (f : Nat) (IH : IHR G f) (E : Env) (hE : EB E) (s : St) (r : NJ × St) (h : stepR (runR f) E (.product) s = some r) : ACalls Tryz.prog G 121 (some (rdrIV E s)) [] (resR E r) := by
  simp only [stepR] at h; refine ACalls.enter Tryz.func121 rfl rfl gk Tryz.ntmps121 fun X F => ?_
  apply Ar F; go_simp; apply Ar F; go_simp; obtain ⟨n1, s1, hx1, h⟩ := bindR_some h; have c1 := IH f (Nr f) E hE _ _ (n1, s1) hx1; refine ⟨_, c1, ?_⟩; obtain ⟨k1, t1, m1, q1, l1, b1⟩ := n1; try dsimp only at h
  clear c1; clear hx1; go_simp; rcases f with _ | f
  · cases h
  obtain ⟨tx1, b1x, s4, ca, hb⟩ := r_any_or gk E hE s1 products3 (by decide); obtain ⟨h1, h2⟩ := product_step h hb; clear hb h; apply Ar F; go_simp; refine ⟨_, ca, ?_⟩; go_simp; (repeat apply Aq); apply Ab; (repeat apply Aq); refine AW.loopP [0, 2, 3, 4, 5] [1000, 2, 3] (by decide) (fun g st => ∃ (n : NJ) (s1 : St) (tx : ByteArray) (fl : Fl), st = mkS [(0, .ptr 1000 0), (2, .ptr 2 0), (3, .ptr 3 0), (4, .im (sI tx)), (5, .im (bI fl.a))] [(1000, .box ((rdrIV E s1).map .im)), (2, .box zeroN), (3, .box ((nodeIV n).map .im))] ∧ (fl.a = true → ∃ g2, g = g2 + 1 ∧ g2 ≤ f ∧ bindR (runR g2 E .minus s1) (fun m s3 => runR g2 E (.productLoop (nodeJ 10 tx n m)) s3) = some r) ∧ (fl.a = false → r = (n, s1))) (f + 1) ?_ ?_
  · refine ⟨(.mk k1 t1 m1 q1 l1 b1), s4, tx1, ⟨b1x, false⟩, ?_, fun hb => ⟨f, rfl, Nr f, h1 hb⟩, h2⟩
    go_simp
  rintro g st ⟨n, s3, tx, ⟨b, bx⟩, rfl, hT, hF⟩; dsimp only at hT hF; obtain ⟨k1, t1, m1, q1, l1, b1⟩ := n; cases b
  · obtain rfl := hF rfl
    clear hT hF; apply Ar F; go_simp; (repeat apply Aq); refine Af (by go_simp) ?_; apply Ae; go_simp; apply Ar F; go_simp; apply Au; go_simp
  obtain ⟨g, rfl, hg, h⟩ := hT rfl; clear hT hF; apply Ar F; go_simp; (repeat apply Aq); refine At (by go_simp) ?_; apply As; go_simp; (repeat apply Aq); apply Ab; (repeat apply Aq); refine Ad F [0, 1, 2, 3, 4, 5] [(1, 3)] mixed (by kernel_rfl) ?_; go_simp; obtain ⟨n2, s2, hx2, h⟩ := bindR_some h; have c2 := IH g (by omega) E hE _ _ (n2, s2) hx2; refine ⟨_, c2, ?_⟩; obtain ⟨k2, t2, m2, q2, l2, b2⟩ := n2; try dsimp only at h
  clear c2; clear hx2; go_simp; refine ⟨_, r_node gk 10 tx (.mk k1 t1 m1 q1 l1 b1) (.mk k2 t2 m2 q2 l2 b2), ?_⟩; go_simp; rcases g with _ | g
  · cases h
  obtain ⟨tx2, bb, s4, ca, hb⟩ := r_any_or gk E hE s2 products3 (by decide); obtain ⟨h1, h2⟩ := product_step h hb; apply Ar F; go_simp; refine ⟨_, ca, ?_⟩; go_simp; refine ⟨g + 1, by omega, (nodeJ 10 tx (.mk k1 t1 m1 q1 l1 b1) (.mk k2 t2 m2 q2 l2 b2)), s4, tx2, ⟨bb, false⟩, ?_, fun hb => ⟨g, rfl, by omega, h1 hb⟩, h2⟩; go_simp
theorem r_minus (gk : GK G) (f : Nat) (IH : IHR G f) (E : Env) (hE : EB E) (s : St) (r : NJ × St) (h : stepR (runR f) E (.minus) s = some r) : ACalls Tryz.prog G 125 (some (rdrIV E s)) [] (resR E r) := by
  simp only [stepR] at h; refine ACalls.enter Tryz.func125 rfl rfl gk Tryz.ntmps125 fun X F => ?_
  by_cases w1 : s.err ≠ 0
  · have vw1 : ¬ ((s.err : Nat) : Int) = 0 := by omega
    rw [if_pos w1] at h; obtain rfl := Oi h; apply Ar F; go_simp; apply Ar F; go_simp; (repeat apply Aq); refine At (by go_simp) ?_; apply Ar F; go_simp; apply Au; go_simp
  rw [if_neg w1] at h; obtain ⟨i, e, a⟩ := s; obtain rfl : e = 0 := Dn w1; try dsimp only at h
  apply Ar F; go_simp; apply Ar F; go_simp; (repeat apply Aq); refine Af (by go_simp) ?_; apply As; go_simp; by_cases w2 : hasR E (⟨i, 0, a⟩) ⟨#[45]⟩
  · rw [if_pos w2] at h
    apply Ar F; go_simp; refine ⟨_, r_has_yes gk E (⟨i, 0, a⟩) hE.len ⟨#[45]⟩ w2, ?_⟩; go_simp; (repeat apply Aq); refine At (by go_simp) ?_; apply Ar F; go_simp; obtain ⟨n1, s1, hx1, h⟩ := bindR_some h; have c1 := IH f (Nr f) E hE _ _ (n1, s1) hx1; refine ⟨_, c1, ?_⟩; obtain ⟨k1, t1, m1, q1, l1, b1⟩ := n1; try dsimp only at h
    clear c1; clear hx1; go_simp; obtain rfl := Oi h; apply Au; go_simp
  rw [if_neg w2] at h; apply Ar F; go_simp; refine ⟨_, r_has_no gk E (⟨i, 0, a⟩) ⟨#[45]⟩ w2, ?_⟩; go_simp; (repeat apply Aq); refine Af (by go_simp) ?_; apply As; go_simp; apply Ar F; go_simp; obtain ⟨n1, s1, hx1, h⟩ := bindR_some h; have c1 := IH f (Nr f) E hE _ _ (n1, s1) hx1; refine ⟨_, c1, ?_⟩; obtain ⟨k1, t1, m1, q1, l1, b1⟩ := n1; try dsimp only at h
  clear c1; clear hx1; go_simp; by_cases w3 : hasR E (s1) ⟨#[97, 115]⟩
  · rw [if_pos w3] at h
    apply Ar F; go_simp; refine ⟨_, r_has_yes gk E (s1) hE.len ⟨#[97, 115]⟩ w3, ?_⟩; go_simp; (repeat apply Aq); refine At (by go_simp) ?_; have cn4 := r_named gk E hE (St.next s1) 2 (by decide); have hn4 := named_sz hE (St.next s1) 2; generalize namedR E (St.next s1) 2 = pn4 at h cn4 hn4; obtain ⟨nm, s2⟩ := pn4; dsimp only at h cn4 hn4; apply Ar F; go_simp; refine ⟨_, cn4, ?_⟩; go_simp; have cw5 := r_want gk E hE (s2) ⟨#[124]⟩; generalize wantR E (s2) ⟨#[124]⟩ = s3 at h cw5; apply Ar F; go_simp; refine ⟨_, cw5, ?_⟩; go_simp; (repeat apply Aq); refine Ad F [0, 1, 2, 3, 4, 5] [(1, 3)] mixed (by kernel_rfl) ?_; go_simp; obtain ⟨n4, s4, hx4, h⟩ := bindR_some h; have c4 := IH f (Nr f) E hE _ _ (n4, s4) hx4; refine ⟨_, c4, ?_⟩; obtain ⟨k4, t4, m4, q4, l4, b4⟩ := n4; try dsimp only at h
    clear c4; clear hx4; go_simp; refine ⟨_, r_node gk 21 nm (.mk k1 t1 m1 q1 l1 b1) (.mk k4 t4 m4 q4 l4 b4), ?_⟩; go_simp; obtain rfl := Oi h; apply Au; go_simp
  rw [if_neg w3] at h; apply Ar F; go_simp; refine ⟨_, r_has_no gk E (s1) ⟨#[97, 115]⟩ w3, ?_⟩; go_simp; obtain rfl := Oi h; (repeat apply Aq); refine Af (by go_simp) ?_; apply As; go_simp; apply Ar F; go_simp; apply Au; go_simp
theorem r_whole (gk : GK G) (f : Nat) (IH : IHR G f) (E : Env) (hE : EB E) (s : St) (r : NJ × St) (h : stepR (runR f) E (.whole) s = some r) : ACalls Tryz.prog G 14 (some (rdrIV E s)) [] (resR E r) := by
  simp only [stepR] at h; refine ACalls.enter Tryz.func14 rfl rfl gk Tryz.ntmps14 fun X F => ?_
  apply Ar F; go_simp; apply Ar F; go_simp; obtain ⟨n1, s1, hx1, h⟩ := bindR_some h; have c1 := IH f (Nr f) E hE _ _ (n1, s1) hx1; refine ⟨_, c1, ?_⟩; obtain ⟨k1, t1, m1, q1, l1, b1⟩ := n1; try dsimp only at h
  clear c1; clear hx1; go_simp; by_cases w0 : s1.err = 0
  · obtain ⟨i1, e1, a1⟩ := s1
    dsimp only at w0 h; subst w0; by_cases w1 : i1 < E.l.length
    · rw [if_pos ⟨rfl, w1⟩] at h
      obtain rfl := Oi h; (repeat apply Aq); refine Ad F [0, 1, 2, 3, 4, 5, 6, 7, 8, 9, 10, 11, 12, 13, 14, 15, 16] [] mixed (by kernel_rfl) ?_; go_simp; (repeat apply Aq); refine At (by go_simp) ?_; apply Ar F; go_simp; refine ⟨_, r_fail gk E hE (⟨i1, 0, a1⟩) 60, ?_⟩; go_simp; apply Ar F; go_simp; apply Au; go_simp
    rw [if_neg (fun hh => w1 hh.2)] at h; obtain rfl := Oi h; (repeat apply Aq); refine Ad F [0, 1, 2, 3, 4, 5, 6, 7, 8, 9, 10, 11, 12, 13, 14, 15, 16] [] mixed (by kernel_rfl) ?_; go_simp; (repeat apply Aq); refine Af (by go_simp) ?_; apply As; go_simp; apply Ar F; go_simp; apply Au; go_simp
  have w2 : ¬ ((s1.err : Nat) : Int) = 0 := by omega
  rw [if_neg (fun hh => w0 hh.1)] at h; obtain rfl := Oi h; (repeat apply Aq); refine Ad F [0, 1, 2, 3, 4, 5, 6, 7, 8, 9, 10, 11, 12, 13, 14, 15, 16] [] mixed (by kernel_rfl) ?_; go_simp; (repeat apply Aq); refine Af (by go_simp) ?_; apply As; go_simp; apply Ar F; go_simp; apply Au; go_simp
theorem r_branch (gk : GK G) (f : Nat) (IH : IHR G f) (E : Env) (hE : EB E) (s : St) (r : NJ × St) (h : stepR (runR f) E (.branch) s = some r) : ACalls Tryz.prog G 137 (some (rdrIV E s)) [] (resR E r) := by
  simp only [stepR] at h; refine ACalls.enter Tryz.func137 rfl rfl gk Tryz.ntmps137 fun X F => ?_
  by_cases w1 : s.err ≠ 0
  · have vw1 : ¬ ((s.err : Nat) : Int) = 0 := by omega
    rw [if_pos w1] at h; obtain rfl := Oi h; apply Ar F; go_simp; apply Ar F; go_simp; (repeat apply Aq); refine At (by go_simp) ?_; apply Ar F; go_simp; apply Au; go_simp
  rw [if_neg w1] at h; obtain ⟨i, e, a⟩ := s; obtain rfl : e = 0 := Dn w1; try dsimp only at h
  apply Ar F; go_simp; apply Ar F; go_simp; (repeat apply Aq); refine Af (by go_simp) ?_; apply As; go_simp; apply Ar F; go_simp; obtain ⟨n1, s1, hx1, h⟩ := bindR_some h; have c1 := IH f (Nr f) E hE _ _ (n1, s1) hx1; refine ⟨_, c1, ?_⟩; obtain ⟨k1, t1, m1, q1, l1, b1⟩ := n1; try dsimp only at h
  clear c1; clear hx1; go_simp; have cw2 := r_want gk E hE (s1) ⟨#[116, 104, 101, 110]⟩; generalize wantR E (s1) ⟨#[116, 104, 101, 110]⟩ = s2 at h cw2; apply Ar F; go_simp; refine ⟨_, cw2, ?_⟩; go_simp; apply Ar F; go_simp; obtain ⟨n3, s3, hx3, h⟩ := bindR_some h; have c3 := IH f (Nr f) E hE _ _ (n3, s3) hx3; refine ⟨_, c3, ?_⟩; obtain ⟨k3, t3, m3, q3, l3, b3⟩ := n3; try dsimp only at h
  clear c3; clear hx3; go_simp; by_cases w3 : hasR E (s3) ⟨#[101, 108, 105, 102]⟩
  · rw [if_pos w3] at h
    apply Ar F; go_simp; apply Ar F; go_simp; refine ⟨_, r_has_yes gk E (s3) hE.len ⟨#[101, 108, 105, 102]⟩ w3, ?_⟩; go_simp; (repeat apply Aq); refine At (by go_simp) ?_; apply Ar F; go_simp; obtain ⟨n4, s4, hx4, h⟩ := bindR_some h; have c4 := IH f (Nr f) E hE _ _ (n4, s4) hx4; refine ⟨_, c4, ?_⟩; obtain ⟨k4, t4, m4, q4, l4, b4⟩ := n4; try dsimp only at h
    clear c4; clear hx4; go_simp; obtain rfl := Oi h; apply Ar F; go_simp; apply Au; go_simp
  rw [if_neg w3] at h; apply Ar F; go_simp; apply Ar F; go_simp; refine ⟨_, r_has_no gk E (s3) ⟨#[101, 108, 105, 102]⟩ w3, ?_⟩; go_simp; (repeat apply Aq); refine Af (by go_simp) ?_; apply As; go_simp; by_cases w4 : hasR E (s3) ⟨#[101, 108, 115, 101]⟩
  · rw [if_pos w4] at h
    apply Ar F; go_simp; refine ⟨_, r_has_yes gk E (s3) hE.len ⟨#[101, 108, 115, 101]⟩ w4, ?_⟩; go_simp; (repeat apply Aq); refine At (by go_simp) ?_; apply Ar F; go_simp; obtain ⟨n4, s4, hx4, h⟩ := bindR_some h; have c4 := IH f (Nr f) E hE _ _ (n4, s4) hx4; refine ⟨_, c4, ?_⟩; obtain ⟨k4, t4, m4, q4, l4, b4⟩ := n4; try dsimp only at h
    clear c4; clear hx4; go_simp; have cw5 := r_want gk E hE (s4) ⟨#[101, 110, 100]⟩; generalize wantR E (s4) ⟨#[101, 110, 100]⟩ = s5 at h cw5; apply Ar F; go_simp; refine ⟨_, cw5, ?_⟩; go_simp; obtain rfl := Oi h; apply Ar F; go_simp; apply Au; go_simp
  rw [if_neg w4] at h; apply Ar F; go_simp; refine ⟨_, r_has_no gk E (s3) ⟨#[101, 108, 115, 101]⟩ w4, ?_⟩; go_simp; (repeat apply Aq); refine Af (by go_simp) ?_; apply As; go_simp; have cw6 := r_want gk E hE (s3) ⟨#[101, 110, 100]⟩; generalize wantR E (s3) ⟨#[101, 110, 100]⟩ = s5 at h cw6; apply Ar F; go_simp; refine ⟨_, cw6, ?_⟩; go_simp; obtain rfl := Oi h; apply Ar F; go_simp; apply Au; go_simp
open Go Go.RowKit Go.Proofs Th
variable {G : World → CS → Prop}
theorem syn_all (gk : GK G) (hNum : NumP G) (hSc : ScanP G) (hPt : PartsP G) (hQ : QuoteP G) : ∀ f, IHP G f := by
  intro f; induction f with
  | zero =>
    intro g hg E hE job i r h; obtain rfl : g = 0 := by omega
    cases h
  | succ f ih =>
    intro g hg E hE job i r h; rcases Nat.lt_or_ge f g with h1 | h1
    · obtain rfl : g = f + 1 := by omega
      simp only [runP] at h; cases job with
      | filter => exact syn_filter gk f ih E hE i r h
      | def_ => exact syn_def gk f ih E hE i r h
      | binary least => exact syn_binary gk f ih E hE i least r h
      | minus => exact syn_minus gk f ih E hE i r h
      | term => exact syn_term gk f ih E hE i r h
      | index x => exact syn_index gk f ih E hE i x r h
      | quoted => exact syn_quoted gk f ih E hE i hSc hPt hQ r h
      | whole => exact syn_whole gk f ih E hE i r h
      | first => exact syn_first gk f ih E hE i hNum r h
      | sign s => exact fun hi => syn_sign gk f ih E hE i s hi r h
      | object => exact syn_object gk f ih E hE i r h
      | entry => exact syn_entry gk f ih E hE i r h
      | word s => exact fun hi => syn_word gk f ih E hE i s hi r h
      | branch => exact syn_branch gk f ih E hE i r h
      | loop k => exact syn_loop gk f ih E hE i k r h
      | binLoop _ _ _ => trivial
      | termLoop _ => trivial
      | parts _ _ _ _ => trivial
      | objLoop _ => trivial
      | callLoop _ _ => trivial
    exact ih g h1 E hE job i r h
end Go.Proofs.YtinknjhclpaieaaGreatDoor
