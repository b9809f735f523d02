/- Lemmas and contracts for the laws SpellSames, part 43 of 47: SpTE. Conditions: those that each lemma names. -/
import Derived.Test.YtakncilicoefdaaGreatDoorPa42
import Derived.Test.YtakncilicoefdaaGreatDoorPa40
set_option maxRecDepth 100000
set_option maxHeartbeats 8000000
namespace Go.Proofs.YtakncilicoefdaaGreatDoor
open Go Go.RowKit Go.Proofs Th
set_option maxRecDepth 8000
attribute [local go_sem] aops aopsD stepA chkD disj aguard isWant aop aval abuil acall acallP acallR argsIV valOf aput startS mkS numb look upd toIV allIV zeroFV aload setSeg afill aelems cellsOf toSl toVal valsOf aidx abin ainR FV.ok IV.one IV.er IV.erA IV.er1 iI sI bI nodeIV nodesIV tokIV parIV faultV resP lift AThen ABlock AEnd resL resV rload rcOf imsOf oneV nodeJ kidsJ strJ knownJ selfJ noNJ noTf foot owns pruneS filtF filtO Value.oneCell'
attribute [local go_sem] ti_node ti_tok ti_par ti_fault ti_nodes ti_toks ti_strs ti_ints ti_str ti_int ti_num ti_errno
attribute [local go_sem] sel
attribute [local go_sem] zeroN nodesIV_append nodesIV_len kidC rowC nodeF
attribute [local go_sem] nodesIV_getE List.map_append List.map_cons List.map_nil List.length_map
attribute [local go_sem] catB ByteArray.size_append bsz eap ape
variable {G : World → CS → Prop}
theorem sp_l17 (gk : GK G) (t1 : ByteArray) (m1 q1 : Int) (b1 : List ByteArray) (x0 x1 x2 : NJ) (c0 : TxtP G x0) (h0 : (spJ x0).size ≤ 10000000) (c1 : TxtP G x1) (h1 : (spJ x1).size ≤ 10000000) (c2 : TxtP G x2) (h2 : (spJ x2).size ≤ 10000000) : ACalls Tryz.prog G 36 none [.agg (nodeIV (.mk 17 t1 m1 q1 [x0, x1, x2] b1))] (.ret (sI (catB [⟨#[105, 102, 32]⟩, spJ x0, ⟨#[32, 116, 104, 101, 110, 32]⟩, spJ x1, ⟨#[32, 101, 108, 115, 101, 32]⟩, spJ x2, ⟨#[32, 101, 110, 100]⟩])) []) := by
  unfold TxtP at c0; generalize spJ x0 = u at *; obtain ⟨k2, t2, m2, q2, l2, b2⟩ := x0; unfold TxtP at c1; generalize spJ x1 = v at *; obtain ⟨k3, t3, m3, q3, l3, b3⟩ := x1; unfold TxtP at c2; generalize spJ x2 = g at *; obtain ⟨k4, t4, m4, q4, l4, b4⟩ := x2; have ca := sp_all gk [⟨#[105, 102, 32]⟩, u, ⟨#[32, 116, 104, 101, 110, 32]⟩, v, ⟨#[32, 101, 108, 115, 101, 32]⟩, g, ⟨#[32, 101, 110, 100]⟩] (by simp only [catB, ByteArray.size_append, bsz, List.length_cons, List.length_nil]; omega); simp only [List.map_cons, List.map_nil] at ca; have hzz : (catB [⟨#[105, 102, 32]⟩, u, ⟨#[32, 116, 104, 101, 110, 32]⟩, v, ⟨#[32, 101, 108, 115, 101, 32]⟩, g, ⟨#[32, 101, 110, 100]⟩]).size ≤ 1000000000 := (by simp only [catB, ByteArray.size_append, bsz, List.length_cons, List.length_nil]; omega); generalize catB [⟨#[105, 102, 32]⟩, u, ⟨#[32, 116, 104, 101, 110, 32]⟩, v, ⟨#[32, 101, 108, 115, 101, 32]⟩, g, ⟨#[32, 101, 110, 100]⟩] = z at ca hzz ⊢; refine ACalls.enter Tryz.func36 rfl rfl gk Tryz.ntmps36 fun X F => ?_
  apply Ar F; go_simp; repeat (refine And.intro (by omega) ?_; go_simp)
  apply Ar F; go_simp; repeat (refine And.intro (by omega) ?_; go_simp)
  (repeat apply Aq); apply Ab; apply Ar F; go_simp; repeat (refine And.intro (by omega) ?_; go_simp)
  (repeat apply Aq); refine At (by go_simp) ?_; (repeat apply Aq); refine Ad F [0, 1, 2, 3, 5, 6, 7, 8, 10, 11, 12, 13, 4, 9, 14, 15, 16, 17] [(6, 4), (7, 4), (8, 4), (11, 4), (11, 9), (12, 4), (12, 9), (13, 4), (13, 9)] mixed (by kernel_rfl) ?_; go_simp; repeat (refine And.intro (by omega) ?_; go_simp)
  refine ⟨_, c0, ?_⟩; go_simp; repeat (refine And.intro (by omega) ?_; go_simp)
  refine ⟨_, c1, ?_⟩; go_simp; repeat (refine And.intro (by omega) ?_; go_simp)
  refine ⟨_, c2, ?_⟩; go_simp; repeat (refine And.intro (by omega) ?_; go_simp)
  refine ⟨_, ca, ?_⟩; go_simp; repeat (refine And.intro (by omega) ?_; go_simp)
  apply Au; go_simp; repeat (refine And.intro (by omega) ?_; go_simp)
theorem sp_l18a (gk : GK G) (t1 : ByteArray) (m1 q1 : Int) (b1 : List ByteArray) (x0 : NJ) (c0 : TxtP G x0) (h0 : (spJ x0).size ≤ 10000000) : ACalls Tryz.prog G 36 none [.agg (nodeIV (.mk 18 t1 m1 q1 [x0] b1))] (.ret (sI (catB [⟨#[40, 116, 114, 121, 32]⟩, tgB (kindJ x0) (spJ x0)] ++ ⟨#[41]⟩)) []) := by
  have d0 := sp_tight gk x0 c0 (by omega); have hT0 : (tgB (kindJ x0) (spJ x0)).size ≤ 20000000 := by unfold tgB; split <;> first | omega | (rw [paren_size]; omega)
  generalize tgB (kindJ x0) (spJ x0) = T0 at *; unfold TxtP at c0; generalize spJ x0 = u at *; obtain ⟨k2, t2, m2, q2, l2, b2⟩ := x0; have ca := sp_all gk [⟨#[40, 116, 114, 121, 32]⟩, T0] (by simp only [catB, ByteArray.size_append, bsz, List.length_cons, List.length_nil]; omega); simp only [List.map_cons, List.map_nil] at ca; have hzz : (catB [⟨#[40, 116, 114, 121, 32]⟩, T0]).size ≤ 1000000000 := (by simp only [catB, ByteArray.size_append, bsz, List.length_cons, List.length_nil]; omega); generalize catB [⟨#[40, 116, 114, 121, 32]⟩, T0] = z at ca hzz ⊢; refine ACalls.enter Tryz.func36 rfl rfl gk Tryz.ntmps36 fun X F => ?_
  apply Ar F; go_simp; repeat (refine And.intro (by omega) ?_; go_simp)
  apply Ar F; go_simp; repeat (refine And.intro (by omega) ?_; go_simp)
  (repeat apply Aq); apply Ab; apply Ar F; go_simp; repeat (refine And.intro (by omega) ?_; go_simp)
  (repeat apply Aq); refine Af (by go_simp) ?_; apply Ar F; go_simp; repeat (refine And.intro (by omega) ?_; go_simp)
  (repeat apply Aq); refine At (by go_simp) ?_; apply Ar F; go_simp; repeat (refine And.intro (by omega) ?_; go_simp)
  refine ⟨_, d0, ?_⟩; go_simp; repeat (refine And.intro (by omega) ?_; go_simp)
  refine ⟨_, ca, ?_⟩; go_simp; repeat (refine And.intro (by omega) ?_; go_simp)
  apply Ar F; go_simp; repeat (refine And.intro (by omega) ?_; go_simp)
  (repeat apply Aq); refine Af (by go_simp) ?_; apply As; go_simp; repeat (refine And.intro (by omega) ?_; go_simp)
  apply Ar F; go_simp; repeat (refine And.intro (by omega) ?_; go_simp)
  apply Au; go_simp; repeat (refine And.intro (by omega) ?_; go_simp)
theorem sp_l18b (gk : GK G) (t1 : ByteArray) (m1 q1 : Int) (b1 : List ByteArray) (x0 x1 : NJ) (c0 : TxtP G x0) (h0 : (spJ x0).size ≤ 10000000) (c1 : TxtP G x1) (h1 : (spJ x1).size ≤ 10000000) : ACalls Tryz.prog G 36 none [.agg (nodeIV (.mk 18 t1 m1 q1 [x0, x1] b1))] (.ret (sI (catB [⟨#[40, 116, 114, 121, 32]⟩, tgB (kindJ x0) (spJ x0)] ++ catB [⟨#[32, 99, 97, 116, 99, 104, 32]⟩, tgB (kindJ x1) (spJ x1)] ++ ⟨#[41]⟩)) []) := by
  have d0 := sp_tight gk x0 c0 (by omega); have hT0 : (tgB (kindJ x0) (spJ x0)).size ≤ 20000000 := by unfold tgB; split <;> first | omega | (rw [paren_size]; omega)
  generalize tgB (kindJ x0) (spJ x0) = T0 at *; have d1 := sp_tight gk x1 c1 (by omega); have hT1 : (tgB (kindJ x1) (spJ x1)).size ≤ 20000000 := by unfold tgB; split <;> first | omega | (rw [paren_size]; omega)
  generalize tgB (kindJ x1) (spJ x1) = T1 at *; unfold TxtP at c0; generalize spJ x0 = u at *; obtain ⟨k2, t2, m2, q2, l2, b2⟩ := x0; unfold TxtP at c1; generalize spJ x1 = v at *; obtain ⟨k3, t3, m3, q3, l3, b3⟩ := x1; have ca := sp_all gk [⟨#[40, 116, 114, 121, 32]⟩, T0] (by simp only [catB, ByteArray.size_append, bsz, List.length_cons, List.length_nil]; omega); simp only [List.map_cons, List.map_nil] at ca; have hzz : (catB [⟨#[40, 116, 114, 121, 32]⟩, T0]).size ≤ 1000000000 := (by simp only [catB, ByteArray.size_append, bsz, List.length_cons, List.length_nil]; omega); generalize catB [⟨#[40, 116, 114, 121, 32]⟩, T0] = z at ca hzz ⊢; have cb := sp_all gk [⟨#[32, 99, 97, 116, 99, 104, 32]⟩, T1] (by simp only [catB, ByteArray.size_append, bsz, List.length_cons, List.length_nil]; omega); simp only [List.map_cons, List.map_nil] at cb; have hzy : (catB [⟨#[32, 99, 97, 116, 99, 104, 32]⟩, T1]).size ≤ 100000000 := (by simp only [catB, ByteArray.size_append, bsz, List.length_cons, List.length_nil]; omega); generalize catB [⟨#[32, 99, 97, 116, 99, 104, 32]⟩, T1] = y at cb hzy ⊢; refine ACalls.enter Tryz.func36 rfl rfl gk Tryz.ntmps36 fun X F => ?_
  apply Ar F; go_simp; repeat (refine And.intro (by omega) ?_; go_simp)
  apply Ar F; go_simp; repeat (refine And.intro (by omega) ?_; go_simp)
  (repeat apply Aq); apply Ab; apply Ar F; go_simp; repeat (refine And.intro (by omega) ?_; go_simp)
  (repeat apply Aq); refine Af (by go_simp) ?_; apply Ar F; go_simp; repeat (refine And.intro (by omega) ?_; go_simp)
  (repeat apply Aq); refine At (by go_simp) ?_; apply Ar F; go_simp; repeat (refine And.intro (by omega) ?_; go_simp)
  refine ⟨_, d0, ?_⟩; go_simp; repeat (refine And.intro (by omega) ?_; go_simp)
  refine ⟨_, ca, ?_⟩; go_simp; repeat (refine And.intro (by omega) ?_; go_simp)
  apply Ar F; go_simp; repeat (refine And.intro (by omega) ?_; go_simp)
  (repeat apply Aq); refine At (by go_simp) ?_; apply Ar F; go_simp; repeat (refine And.intro (by omega) ?_; go_simp)
  refine ⟨_, d1, ?_⟩; go_simp; repeat (refine And.intro (by omega) ?_; go_simp)
  refine ⟨_, cb, ?_⟩; go_simp; repeat (refine And.intro (by omega) ?_; go_simp)
  apply Ar F; go_simp; repeat (refine And.intro (by omega) ?_; go_simp)
  apply Au; go_simp; repeat (refine And.intro (by omega) ?_; go_simp)
theorem sp_l19 (gk : GK G) (t1 : ByteArray) (m1 q1 : Int) (b1 : List ByteArray) (ht1 : t1.size ≤ 10000000) (x0 x1 x2 : NJ) (hw : (betB ⟨#[59, 32]⟩ ⟨#[]⟩ ([x1, x2].map spJ)).size ≤ 10000000) (c0 : TxtP G x0) (h0 : (spJ x0).size ≤ 10000000) (c1 : TxtP G x1) (h1 : (spJ x1).size ≤ 10000000) (c2 : TxtP G x2) (h2 : (spJ x2).size ≤ 10000000) : ACalls Tryz.prog G 36 none [.agg (nodeIV (.mk 19 t1 m1 q1 [x0, x1, x2] b1))] (.ret (sI (catB [⟨#[114, 101, 100, 117, 99, 101, 32]⟩, tgB (kindJ x0) (spJ x0), ⟨#[32, 97, 115, 32, 36]⟩, t1, ⟨#[32, 40]⟩, betB ⟨#[59, 32]⟩ ⟨#[]⟩ ([x1, x2].map spJ), ⟨#[41]⟩])) []) := by
  have cw := sp_between gk [x1, x2] ⟨#[59, 32]⟩ (by simp only [List.mem_cons, List.not_mem_nil, or_false]; rintro x (rfl | rfl) <;> assumption) (by simp only [List.mem_cons, List.not_mem_nil, or_false]; rintro x (rfl | rfl) <;> assumption) (by decide) (by omega); generalize betB ⟨#[59, 32]⟩ ⟨#[]⟩ ([x1, x2].map spJ) = w at *; have d0 := sp_tight gk x0 c0 (by omega); have hT0 : (tgB (kindJ x0) (spJ x0)).size ≤ 20000000 := by unfold tgB; split <;> first | omega | (rw [paren_size]; omega)
  generalize tgB (kindJ x0) (spJ x0) = T0 at *; unfold TxtP at c0; generalize spJ x0 = u at *; obtain ⟨k2, t2, m2, q2, l2, b2⟩ := x0; unfold TxtP at c1; generalize spJ x1 = v at *; obtain ⟨k3, t3, m3, q3, l3, b3⟩ := x1; unfold TxtP at c2; generalize spJ x2 = g at *; obtain ⟨k4, t4, m4, q4, l4, b4⟩ := x2; simp only [nodesIV, nodeIV] at cw; have ca := sp_all gk [⟨#[114, 101, 100, 117, 99, 101, 32]⟩, T0, ⟨#[32, 97, 115, 32, 36]⟩, t1, ⟨#[32, 40]⟩, w, ⟨#[41]⟩] (by simp only [catB, ByteArray.size_append, bsz, List.length_cons, List.length_nil]; omega); simp only [List.map_cons, List.map_nil] at ca; have hzz : (catB [⟨#[114, 101, 100, 117, 99, 101, 32]⟩, T0, ⟨#[32, 97, 115, 32, 36]⟩, t1, ⟨#[32, 40]⟩, w, ⟨#[41]⟩]).size ≤ 1000000000 := (by simp only [catB, ByteArray.size_append, bsz, List.length_cons, List.length_nil]; omega); generalize catB [⟨#[114, 101, 100, 117, 99, 101, 32]⟩, T0, ⟨#[32, 97, 115, 32, 36]⟩, t1, ⟨#[32, 40]⟩, w, ⟨#[41]⟩] = z at ca hzz ⊢; refine ACalls.enter Tryz.func36 rfl rfl gk Tryz.ntmps36 fun X F => ?_
  apply Ar F; go_simp; repeat (refine And.intro (by omega) ?_; go_simp)
  apply Ar F; go_simp; repeat (refine And.intro (by omega) ?_; go_simp)
  (repeat apply Aq); apply Ab; apply Ar F; go_simp; repeat (refine And.intro (by omega) ?_; go_simp)
  (repeat apply Aq); refine Af (by go_simp) ?_; apply Ar F; go_simp; repeat (refine And.intro (by omega) ?_; go_simp)
  (repeat apply Aq); refine Af (by go_simp) ?_; apply Ar F; go_simp; repeat (refine And.intro (by omega) ?_; go_simp)
  (repeat apply Aq); refine At (by go_simp) ?_; (repeat apply Aq); refine Ad F [0, 1, 2, 3, 5, 6, 7, 8, 9, 4, 10, 11, 12, 13] [(6, 4), (6, 10), (8, 4)] mixed (by kernel_rfl) ?_; go_simp; repeat (refine And.intro (by omega) ?_; go_simp)
  refine ⟨_, d0, ?_⟩; go_simp; repeat (refine And.intro (by omega) ?_; go_simp)
  refine ⟨_, cw, ?_⟩; go_simp; repeat (refine And.intro (by omega) ?_; go_simp)
  refine ⟨_, ca, ?_⟩; go_simp; repeat (refine And.intro (by omega) ?_; go_simp)
  apply Au; go_simp; repeat (refine And.intro (by omega) ?_; go_simp)
theorem sp_l20 (gk : GK G) (t1 : ByteArray) (m1 q1 : Int) (b1 : List ByteArray) (ht1 : t1.size ≤ 10000000) (x0 x1 x2 x3 : NJ) (hw : (betB ⟨#[59, 32]⟩ ⟨#[]⟩ ([x1, x2, x3].map spJ)).size ≤ 10000000) (c0 : TxtP G x0) (h0 : (spJ x0).size ≤ 10000000) (c1 : TxtP G x1) (h1 : (spJ x1).size ≤ 10000000) (c2 : TxtP G x2) (h2 : (spJ x2).size ≤ 10000000) (c3 : TxtP G x3) (h3 : (spJ x3).size ≤ 10000000) : ACalls Tryz.prog G 36 none [.agg (nodeIV (.mk 20 t1 m1 q1 [x0, x1, x2, x3] b1))] (.ret (sI (catB [⟨#[102, 111, 114, 101, 97, 99, 104, 32]⟩, tgB (kindJ x0) (spJ x0), ⟨#[32, 97, 115, 32, 36]⟩, t1, ⟨#[32, 40]⟩, betB ⟨#[59, 32]⟩ ⟨#[]⟩ ([x1, x2, x3].map spJ), ⟨#[41]⟩])) []) := by
  have cw := sp_between gk [x1, x2, x3] ⟨#[59, 32]⟩ (by simp only [List.mem_cons, List.not_mem_nil, or_false]; rintro x (rfl | rfl | rfl) <;> assumption) (by simp only [List.mem_cons, List.not_mem_nil, or_false]; rintro x (rfl | rfl | rfl) <;> assumption) (by decide) (by omega); generalize betB ⟨#[59, 32]⟩ ⟨#[]⟩ ([x1, x2, x3].map spJ) = w at *; have d0 := sp_tight gk x0 c0 (by omega); have hT0 : (tgB (kindJ x0) (spJ x0)).size ≤ 20000000 := by unfold tgB; split <;> first | omega | (rw [paren_size]; omega)
  generalize tgB (kindJ x0) (spJ x0) = T0 at *; unfold TxtP at c0; generalize spJ x0 = u at *; obtain ⟨k2, t2, m2, q2, l2, b2⟩ := x0; unfold TxtP at c1; generalize spJ x1 = v at *; obtain ⟨k3, t3, m3, q3, l3, b3⟩ := x1; unfold TxtP at c2; generalize spJ x2 = g at *; obtain ⟨k4, t4, m4, q4, l4, b4⟩ := x2; unfold TxtP at c3; generalize spJ x3 = f at *; obtain ⟨k5, t5, m5, q5, l5, b5⟩ := x3; simp only [nodesIV, nodeIV] at cw; have ca := sp_all gk [⟨#[102, 111, 114, 101, 97, 99, 104, 32]⟩, T0, ⟨#[32, 97, 115, 32, 36]⟩, t1, ⟨#[32, 40]⟩, w, ⟨#[41]⟩] (by simp only [catB, ByteArray.size_append, bsz, List.length_cons, List.length_nil]; omega); simp only [List.map_cons, List.map_nil] at ca; have hzz : (catB [⟨#[102, 111, 114, 101, 97, 99, 104, 32]⟩, T0, ⟨#[32, 97, 115, 32, 36]⟩, t1, ⟨#[32, 40]⟩, w, ⟨#[41]⟩]).size ≤ 1000000000 := (by simp only [catB, ByteArray.size_append, bsz, List.length_cons, List.length_nil]; omega); generalize catB [⟨#[102, 111, 114, 101, 97, 99, 104, 32]⟩, T0, ⟨#[32, 97, 115, 32, 36]⟩, t1, ⟨#[32, 40]⟩, w, ⟨#[41]⟩] = z at ca hzz ⊢; refine ACalls.enter Tryz.func36 rfl rfl gk Tryz.ntmps36 fun X F => ?_
  apply Ar F; go_simp; repeat (refine And.intro (by omega) ?_; go_simp)
  apply Ar F; go_simp; repeat (refine And.intro (by omega) ?_; go_simp)
  (repeat apply Aq); apply Ab; apply Ar F; go_simp; repeat (refine And.intro (by omega) ?_; go_simp)
  (repeat apply Aq); refine Af (by go_simp) ?_; apply Ar F; go_simp; repeat (refine And.intro (by omega) ?_; go_simp)
  (repeat apply Aq); refine Af (by go_simp) ?_; apply Ar F; go_simp; repeat (refine And.intro (by omega) ?_; go_simp)
  (repeat apply Aq); refine Af (by go_simp) ?_; apply Ar F; go_simp; repeat (refine And.intro (by omega) ?_; go_simp)
  (repeat apply Aq); refine At (by go_simp) ?_; (repeat apply Aq); refine Ad F [0, 1, 2, 3, 5, 6, 7, 8, 9, 4, 10, 11, 12, 13] [(6, 4), (6, 10), (8, 4)] mixed (by kernel_rfl) ?_; go_simp; repeat (refine And.intro (by omega) ?_; go_simp)
  refine ⟨_, d0, ?_⟩; go_simp; repeat (refine And.intro (by omega) ?_; go_simp)
  refine ⟨_, cw, ?_⟩; go_simp; repeat (refine And.intro (by omega) ?_; go_simp)
  refine ⟨_, ca, ?_⟩; go_simp; repeat (refine And.intro (by omega) ?_; go_simp)
  apply Au; go_simp; repeat (refine And.intro (by omega) ?_; go_simp)
theorem sp_l21 (gk : GK G) (t1 : ByteArray) (m1 q1 : Int) (b1 : List ByteArray) (ht1 : t1.size ≤ 10000000) (x0 x1 : NJ) (c0 : TxtP G x0) (h0 : (spJ x0).size ≤ 10000000) (c1 : TxtP G x1) (h1 : (spJ x1).size ≤ 10000000) : ACalls Tryz.prog G 36 none [.agg (nodeIV (.mk 21 t1 m1 q1 [x0, x1] b1))] (.ret (sI (catB [⟨#[40]⟩, tgB (kindJ x0) (spJ x0), ⟨#[32, 97, 115, 32, 36]⟩, t1, ⟨#[32, 124, 32]⟩, spJ x1, ⟨#[41]⟩])) []) := by
  have d0 := sp_tight gk x0 c0 (by omega); have hT0 : (tgB (kindJ x0) (spJ x0)).size ≤ 20000000 := by unfold tgB; split <;> first | omega | (rw [paren_size]; omega)
  generalize tgB (kindJ x0) (spJ x0) = T0 at *; unfold TxtP at c0; generalize spJ x0 = u at *; obtain ⟨k2, t2, m2, q2, l2, b2⟩ := x0; unfold TxtP at c1; generalize spJ x1 = v at *; obtain ⟨k3, t3, m3, q3, l3, b3⟩ := x1; have ca := sp_all gk [⟨#[40]⟩, T0, ⟨#[32, 97, 115, 32, 36]⟩, t1, ⟨#[32, 124, 32]⟩, v, ⟨#[41]⟩] (by simp only [catB, ByteArray.size_append, bsz, List.length_cons, List.length_nil]; omega); simp only [List.map_cons, List.map_nil] at ca; have hzz : (catB [⟨#[40]⟩, T0, ⟨#[32, 97, 115, 32, 36]⟩, t1, ⟨#[32, 124, 32]⟩, v, ⟨#[41]⟩]).size ≤ 1000000000 := (by simp only [catB, ByteArray.size_append, bsz, List.length_cons, List.length_nil]; omega); generalize catB [⟨#[40]⟩, T0, ⟨#[32, 97, 115, 32, 36]⟩, t1, ⟨#[32, 124, 32]⟩, v, ⟨#[41]⟩] = z at ca hzz ⊢; refine ACalls.enter Tryz.func36 rfl rfl gk Tryz.ntmps36 fun X F => ?_
  apply Ar F; go_simp; repeat (refine And.intro (by omega) ?_; go_simp)
  apply Ar F; go_simp; repeat (refine And.intro (by omega) ?_; go_simp)
  (repeat apply Aq); apply Ab; apply Ar F; go_simp; repeat (refine And.intro (by omega) ?_; go_simp)
  (repeat apply Aq); refine Af (by go_simp) ?_; apply Ar F; go_simp; repeat (refine And.intro (by omega) ?_; go_simp)
  (repeat apply Aq); refine Af (by go_simp) ?_; apply Ar F; go_simp; repeat (refine And.intro (by omega) ?_; go_simp)
  (repeat apply Aq); refine Af (by go_simp) ?_; apply Ar F; go_simp; repeat (refine And.intro (by omega) ?_; go_simp)
  (repeat apply Aq); refine Af (by go_simp) ?_; apply Ar F; go_simp; repeat (refine And.intro (by omega) ?_; go_simp)
  (repeat apply Aq); refine At (by go_simp) ?_; (repeat apply Aq); refine Ad F [0, 1, 2, 3, 5, 6, 7, 8, 9, 10, 4, 11, 12, 13, 14] [(6, 4), (6, 11), (8, 4), (9, 4), (10, 4)] mixed (by kernel_rfl) ?_; go_simp; repeat (refine And.intro (by omega) ?_; go_simp)
  refine ⟨_, d0, ?_⟩; go_simp; repeat (refine And.intro (by omega) ?_; go_simp)
  refine ⟨_, c1, ?_⟩; go_simp; repeat (refine And.intro (by omega) ?_; go_simp)
  refine ⟨_, ca, ?_⟩; go_simp; repeat (refine And.intro (by omega) ?_; go_simp)
  apply Au; go_simp; repeat (refine And.intro (by omega) ?_; go_simp)
theorem sp_l22 (gk : GK G) (t1 : ByteArray) (m1 q1 : Int) (b1 : List ByteArray) (l1 : List NJ) (ht1 : t1.size ≤ 10000000)  : ACalls Tryz.prog G 36 none [.agg (nodeIV (.mk 22 t1 m1 q1 l1 b1))] (.ret (sI (⟨#[36]⟩ ++ t1)) []) := by
  refine ACalls.enter Tryz.func36 rfl rfl gk Tryz.ntmps36 fun X F => ?_
  apply Ar F; go_simp; repeat (refine And.intro (by omega) ?_; go_simp)
  apply Ar F; go_simp; repeat (refine And.intro (by omega) ?_; go_simp)
  (repeat apply Aq); apply Ab; apply Ar F; go_simp; repeat (refine And.intro (by omega) ?_; go_simp)
  (repeat apply Aq); refine Af (by go_simp) ?_; apply Ar F; go_simp; repeat (refine And.intro (by omega) ?_; go_simp)
  (repeat apply Aq); refine Af (by go_simp) ?_; apply Ar F; go_simp; repeat (refine And.intro (by omega) ?_; go_simp)
  (repeat apply Aq); refine Af (by go_simp) ?_; apply Ar F; go_simp; repeat (refine And.intro (by omega) ?_; go_simp)
  (repeat apply Aq); refine Af (by go_simp) ?_; apply Ar F; go_simp; repeat (refine And.intro (by omega) ?_; go_simp)
  (repeat apply Aq); refine Af (by go_simp) ?_; apply Ar F; go_simp; repeat (refine And.intro (by omega) ?_; go_simp)
  (repeat apply Aq); refine At (by go_simp) ?_; apply Ar F; go_simp; repeat (refine And.intro (by omega) ?_; go_simp)
  apply Au; go_simp; repeat (refine And.intro (by omega) ?_; go_simp)
theorem sp_l23a (gk : GK G) (t1 : ByteArray) (m1 q1 : Int) (b1 : List ByteArray)  : ACalls Tryz.prog G 36 none [.agg (nodeIV (.mk 23 t1 m1 q1 [] b1))] (.ret (sI t1) []) := by
  refine ACalls.enter Tryz.func36 rfl rfl gk Tryz.ntmps36 fun X F => ?_
  apply Ar F; go_simp; repeat (refine And.intro (by omega) ?_; go_simp)
  apply Ar F; go_simp; repeat (refine And.intro (by omega) ?_; go_simp)
  (repeat apply Aq); apply Ab; apply Ar F; go_simp; repeat (refine And.intro (by omega) ?_; go_simp)
  (repeat apply Aq); refine Af (by go_simp) ?_; apply Ar F; go_simp; repeat (refine And.intro (by omega) ?_; go_simp)
  (repeat apply Aq); refine Af (by go_simp) ?_; apply Ar F; go_simp; repeat (refine And.intro (by omega) ?_; go_simp)
  (repeat apply Aq); refine Af (by go_simp) ?_; apply Ar F; go_simp; repeat (refine And.intro (by omega) ?_; go_simp)
  (repeat apply Aq); refine Af (by go_simp) ?_; apply Ar F; go_simp; repeat (refine And.intro (by omega) ?_; go_simp)
  (repeat apply Aq); refine Af (by go_simp) ?_; apply Ar F; go_simp; repeat (refine And.intro (by omega) ?_; go_simp)
  (repeat apply Aq); refine Af (by go_simp) ?_; apply Ar F; go_simp; repeat (refine And.intro (by omega) ?_; go_simp)
  (repeat apply Aq); refine At (by go_simp) ?_; apply Ar F; go_simp; repeat (refine And.intro (by omega) ?_; go_simp)
  (repeat apply Aq); refine Af (by go_simp) ?_; apply As; go_simp; repeat (refine And.intro (by omega) ?_; go_simp)
  apply Ar F; go_simp; repeat (refine And.intro (by omega) ?_; go_simp)
  apply Au; go_simp; repeat (refine And.intro (by omega) ?_; go_simp)
theorem sp_l23b (gk : GK G) (t1 : ByteArray) (m1 q1 : Int) (b1 : List ByteArray) (l1 : List NJ) (hl : 0 < l1.length) (ht1 : t1.size ≤ 10000000) (ht : ∀ x ∈ l1, TxtP G x) (hs : ∀ x ∈ l1, (spJ x).size ≤ 10000000) (hw : (betB ⟨#[59, 32]⟩ ⟨#[]⟩ (l1.map spJ)).size ≤ 10000000) : ACalls Tryz.prog G 36 none [.agg (nodeIV (.mk 23 t1 m1 q1 l1 b1))] (.ret (sI (catB [t1, ⟨#[40]⟩, betB ⟨#[59, 32]⟩ ⟨#[]⟩ (l1.map spJ), ⟨#[41]⟩])) []) := by
  have cw := sp_between gk l1 ⟨#[59, 32]⟩ ht hs (by decide) hw; generalize betB ⟨#[59, 32]⟩ ⟨#[]⟩ (l1.map spJ) = w at *; have hlI : 0 < (l1.length : Int) := by omega
  have ca := sp_all gk [t1, ⟨#[40]⟩, w, ⟨#[41]⟩] (by simp only [catB, ByteArray.size_append, bsz, List.length_cons, List.length_nil]; omega); simp only [List.map_cons, List.map_nil] at ca; have hzz : (catB [t1, ⟨#[40]⟩, w, ⟨#[41]⟩]).size ≤ 1000000000 := (by simp only [catB, ByteArray.size_append, bsz, List.length_cons, List.length_nil]; omega); generalize catB [t1, ⟨#[40]⟩, w, ⟨#[41]⟩] = z at ca hzz ⊢; refine ACalls.enter Tryz.func36 rfl rfl gk Tryz.ntmps36 fun X F => ?_
  apply Ar F; go_simp; repeat (refine And.intro (by omega) ?_; go_simp)
  apply Ar F; go_simp; repeat (refine And.intro (by omega) ?_; go_simp)
  (repeat apply Aq); apply Ab; apply Ar F; go_simp; repeat (refine And.intro (by omega) ?_; go_simp)
  (repeat apply Aq); refine Af (by go_simp) ?_; apply Ar F; go_simp; repeat (refine And.intro (by omega) ?_; go_simp)
  (repeat apply Aq); refine Af (by go_simp) ?_; apply Ar F; go_simp; repeat (refine And.intro (by omega) ?_; go_simp)
  (repeat apply Aq); refine Af (by go_simp) ?_; apply Ar F; go_simp; repeat (refine And.intro (by omega) ?_; go_simp)
  (repeat apply Aq); refine Af (by go_simp) ?_; apply Ar F; go_simp; repeat (refine And.intro (by omega) ?_; go_simp)
  (repeat apply Aq); refine Af (by go_simp) ?_; apply Ar F; go_simp; repeat (refine And.intro (by omega) ?_; go_simp)
  (repeat apply Aq); refine Af (by go_simp) ?_; apply Ar F; go_simp; repeat (refine And.intro (by omega) ?_; go_simp)
  (repeat apply Aq); refine At (by go_simp) ?_; apply Ar F; go_simp; repeat (refine And.intro (by omega) ?_; go_simp)
  (repeat apply Aq); refine At (by go_simp) ?_; (repeat apply Aq); refine Ad F [0, 1, 2, 3, 4, 5, 6, 7] [(1, 4)] mixed (by kernel_rfl) ?_; go_simp; repeat (refine And.intro (by omega) ?_; go_simp)
  refine ⟨_, cw, ?_⟩; go_simp; repeat (refine And.intro (by omega) ?_; go_simp)
  refine ⟨_, ca, ?_⟩; go_simp; repeat (refine And.intro (by omega) ?_; go_simp)
  apply Au; go_simp; repeat (refine And.intro (by omega) ?_; go_simp)
theorem sp_l24a (gk : GK G) (t1 : ByteArray) (m1 q1 : Int) (ht1 : t1.size ≤ 10000000) (x0 x1 : NJ) (c0 : TxtP G x0) (h0 : (spJ x0).size ≤ 10000000) (c1 : TxtP G x1) (h1 : (spJ x1).size ≤ 10000000) : ACalls Tryz.prog G 36 none [.agg (nodeIV (.mk 24 t1 m1 q1 [x0, x1] []))] (.ret (sI (catB [⟨#[40, 100, 101, 102, 32]⟩, t1, ⟨#[]⟩, ⟨#[58, 32]⟩, spJ x0, ⟨#[59, 32]⟩, spJ x1, ⟨#[41]⟩])) []) := by
  unfold TxtP at c0; generalize spJ x0 = u at *; obtain ⟨k2, t2, m2, q2, l2, b2⟩ := x0; unfold TxtP at c1; generalize spJ x1 = v at *; obtain ⟨k3, t3, m3, q3, l3, b3⟩ := x1; have ca := sp_all gk [⟨#[40, 100, 101, 102, 32]⟩, t1, ⟨#[]⟩, ⟨#[58, 32]⟩, u, ⟨#[59, 32]⟩, v, ⟨#[41]⟩] (by simp only [catB, ByteArray.size_append, bsz, List.length_cons, List.length_nil]; omega); simp only [List.map_cons, List.map_nil] at ca; have hzz : (catB [⟨#[40, 100, 101, 102, 32]⟩, t1, ⟨#[]⟩, ⟨#[58, 32]⟩, u, ⟨#[59, 32]⟩, v, ⟨#[41]⟩]).size ≤ 1000000000 := (by simp only [catB, ByteArray.size_append, bsz, List.length_cons, List.length_nil]; omega); generalize catB [⟨#[40, 100, 101, 102, 32]⟩, t1, ⟨#[]⟩, ⟨#[58, 32]⟩, u, ⟨#[59, 32]⟩, v, ⟨#[41]⟩] = z at ca hzz ⊢; refine ACalls.enter Tryz.func36 rfl rfl gk Tryz.ntmps36 fun X F => ?_
  apply Ar F; go_simp; repeat (refine And.intro (by omega) ?_; go_simp)
  apply Ar F; go_simp; repeat (refine And.intro (by omega) ?_; go_simp)
  (repeat apply Aq); apply Ab; apply Ar F; go_simp; repeat (refine And.intro (by omega) ?_; go_simp)
  (repeat apply Aq); refine Af (by go_simp) ?_; apply Ar F; go_simp; repeat (refine And.intro (by omega) ?_; go_simp)
  (repeat apply Aq); refine Af (by go_simp) ?_; apply Ar F; go_simp; repeat (refine And.intro (by omega) ?_; go_simp)
  (repeat apply Aq); refine Af (by go_simp) ?_; apply Ar F; go_simp; repeat (refine And.intro (by omega) ?_; go_simp)
  (repeat apply Aq); refine Af (by go_simp) ?_; apply Ar F; go_simp; repeat (refine And.intro (by omega) ?_; go_simp)
  (repeat apply Aq); refine Af (by go_simp) ?_; apply Ar F; go_simp; repeat (refine And.intro (by omega) ?_; go_simp)
  (repeat apply Aq); refine Af (by go_simp) ?_; apply Ar F; go_simp; repeat (refine And.intro (by omega) ?_; go_simp)
  (repeat apply Aq); refine Af (by go_simp) ?_; apply As; go_simp; repeat (refine And.intro (by omega) ?_; go_simp)
  apply Ar F; go_simp; repeat (refine And.intro (by omega) ?_; go_simp)
  apply Ar F; go_simp; repeat (refine And.intro (by omega) ?_; go_simp)
  (repeat apply Aq); refine Af (by go_simp) ?_; apply As; go_simp; repeat (refine And.intro (by omega) ?_; go_simp)
  (repeat apply Aq); refine Ad F [0, 1, 2, 3, 4, 5, 6, 8, 9, 10, 11, 7, 12, 13, 14, 15] [(1, 7), (1, 12), (9, 7), (10, 7), (11, 7)] mixed (by kernel_rfl) ?_; go_simp; repeat (refine And.intro (by omega) ?_; go_simp)
  refine ⟨_, c0, ?_⟩; go_simp; repeat (refine And.intro (by omega) ?_; go_simp)
  refine ⟨_, c1, ?_⟩; go_simp; repeat (refine And.intro (by omega) ?_; go_simp)
  refine ⟨_, ca, ?_⟩; go_simp; repeat (refine And.intro (by omega) ?_; go_simp)
  apply Au; go_simp; repeat (refine And.intro (by omega) ?_; go_simp)
theorem sp_l24b (gk : GK G) (t1 : ByteArray) (m1 q1 : Int) (b1 : List ByteArray) (hb : 0 < b1.length) (hw : (sepB ⟨#[59, 32]⟩ b1).size ≤ 10000000) (ht1 : t1.size ≤ 10000000) (x0 x1 : NJ) (c0 : TxtP G x0) (h0 : (spJ x0).size ≤ 10000000) (c1 : TxtP G x1) (h1 : (spJ x1).size ≤ 10000000) : ACalls Tryz.prog G 36 none [.agg (nodeIV (.mk 24 t1 m1 q1 [x0, x1] b1))] (.ret (sI (catB [⟨#[40, 100, 101, 102, 32]⟩, t1, catB [⟨#[40]⟩, sepB ⟨#[59, 32]⟩ b1, ⟨#[41]⟩], ⟨#[58, 32]⟩, spJ x0, ⟨#[59, 32]⟩, spJ x1, ⟨#[41]⟩])) []) := by
  have cj := ac_Join (G := G) b1 ⟨#[59, 32]⟩ (by omega); generalize sepB ⟨#[59, 32]⟩ b1 = w at *; have hbI : 0 < (b1.length : Int) := by omega
  have cp := sp_all gk [⟨#[40]⟩, w, ⟨#[41]⟩] (by simp only [catB, ByteArray.size_append, bsz, List.length_cons, List.length_nil]; omega); simp only [List.map_cons, List.map_nil] at cp; have hzy : (catB [⟨#[40]⟩, w, ⟨#[41]⟩]).size ≤ 100000000 := (by simp only [catB, ByteArray.size_append, bsz, List.length_cons, List.length_nil]; omega); generalize catB [⟨#[40]⟩, w, ⟨#[41]⟩] = y at cp hzy ⊢; unfold TxtP at c0; generalize spJ x0 = u at *; obtain ⟨k2, t2, m2, q2, l2, b2⟩ := x0; unfold TxtP at c1; generalize spJ x1 = v at *; obtain ⟨k3, t3, m3, q3, l3, b3⟩ := x1; have ca := sp_all gk [⟨#[40, 100, 101, 102, 32]⟩, t1, y, ⟨#[58, 32]⟩, u, ⟨#[59, 32]⟩, v, ⟨#[41]⟩] (by simp only [catB, ByteArray.size_append, bsz, List.length_cons, List.length_nil]; omega); simp only [List.map_cons, List.map_nil] at ca; have hzz : (catB [⟨#[40, 100, 101, 102, 32]⟩, t1, y, ⟨#[58, 32]⟩, u, ⟨#[59, 32]⟩, v, ⟨#[41]⟩]).size ≤ 1000000000 := (by simp only [catB, ByteArray.size_append, bsz, List.length_cons, List.length_nil]; omega); generalize catB [⟨#[40, 100, 101, 102, 32]⟩, t1, y, ⟨#[58, 32]⟩, u, ⟨#[59, 32]⟩, v, ⟨#[41]⟩] = z at ca hzz ⊢; refine ACalls.enter Tryz.func36 rfl rfl gk Tryz.ntmps36 fun X F => ?_
  apply Ar F; go_simp; repeat (refine And.intro (by omega) ?_; go_simp)
  apply Ar F; go_simp; repeat (refine And.intro (by omega) ?_; go_simp)
  (repeat apply Aq); apply Ab; apply Ar F; go_simp; repeat (refine And.intro (by omega) ?_; go_simp)
  (repeat apply Aq); refine Af (by go_simp) ?_; apply Ar F; go_simp; repeat (refine And.intro (by omega) ?_; go_simp)
  (repeat apply Aq); refine Af (by go_simp) ?_; apply Ar F; go_simp; repeat (refine And.intro (by omega) ?_; go_simp)
  (repeat apply Aq); refine Af (by go_simp) ?_; apply Ar F; go_simp; repeat (refine And.intro (by omega) ?_; go_simp)
  (repeat apply Aq); refine Af (by go_simp) ?_; apply Ar F; go_simp; repeat (refine And.intro (by omega) ?_; go_simp)
  (repeat apply Aq); refine Af (by go_simp) ?_; apply Ar F; go_simp; repeat (refine And.intro (by omega) ?_; go_simp)
  (repeat apply Aq); refine Af (by go_simp) ?_; apply Ar F; go_simp; repeat (refine And.intro (by omega) ?_; go_simp)
  (repeat apply Aq); refine Af (by go_simp) ?_; apply As; go_simp; repeat (refine And.intro (by omega) ?_; go_simp)
  apply Ar F; go_simp; repeat (refine And.intro (by omega) ?_; go_simp)
  apply Ar F; go_simp; repeat (refine And.intro (by omega) ?_; go_simp)
  (repeat apply Aq); refine At (by go_simp) ?_; apply Ar F; go_simp; repeat (refine And.intro (by omega) ?_; go_simp)
  refine ⟨_, cj, ?_⟩; go_simp; repeat (refine And.intro (by omega) ?_; go_simp)
  refine ⟨_, cp, ?_⟩; go_simp; repeat (refine And.intro (by omega) ?_; go_simp)
  (repeat apply Aq); refine Ad F [0, 1, 2, 3, 4, 5, 6, 8, 9, 10, 11, 7, 12, 13, 14, 15] [(1, 7), (1, 12), (9, 7), (10, 7), (11, 7)] mixed (by kernel_rfl) ?_; go_simp; repeat (refine And.intro (by omega) ?_; go_simp)
  refine ⟨_, c0, ?_⟩; go_simp; repeat (refine And.intro (by omega) ?_; go_simp)
  refine ⟨_, c1, ?_⟩; go_simp; repeat (refine And.intro (by omega) ?_; go_simp)
  refine ⟨_, ca, ?_⟩; go_simp; repeat (refine And.intro (by omega) ?_; go_simp)
  apply Au; go_simp; repeat (refine And.intro (by omega) ?_; go_simp)
end Go.Proofs.YtakncilicoefdaaGreatDoor
