/- Lemmas and contracts. Conditions: those that each lemma names. -/
import Derived.Test.YtakncilicoefdaaGreatDoorPt39
import Derived.Test.YtakncilicoefdaaGreatDoorPt36
set_option maxRecDepth 100000
set_option maxHeartbeats 8000000
namespace Go.Proofs.YtakncilicoefdaaGreatDoor
open Go Go.RowKit Go.Proofs Th
set_option maxRecDepth 8000
attribute [local go_sem] sel
attribute [local go_sem] Aa ByteArray.size_append bsz eap ape
variable {G : World → CS → Prop}
theorem Wb (gk : GK G) (t1 : ByteArray) (m1 q1 : Int) (b1 : List ByteArray) (x0 x1 x2 : NJ) (c0 : AE G x0) (h0 : (spJ x0).size ≤ 10000000) (c1 : AE G x1) (h1 : (spJ x1).size ≤ 10000000) (c2 : AE G x2) (h2 : (spJ x2).size ≤ 10000000) : ACalls Tryz.prog G 36 none [.agg (Ag (.mk 17 t1 m1 q1 [x0, x1, x2] b1))] (.ret (sI (Aa [⟨#[105, 102, 32]⟩, spJ x0, ⟨#[32, 116, 104, 101, 110, 32]⟩, spJ x1, ⟨#[32, 101, 108, 115, 101, 32]⟩, spJ x2, ⟨#[32, 101, 110, 100]⟩])) []) := by
 unfold AE at c0; generalize spJ x0 = u at *; obtain ⟨k2, t2, m2, q2, l2, b2⟩ := x0; unfold AE at c1; generalize spJ x1 = v at *; obtain ⟨k3, t3, m3, q3, l3, b3⟩ := x1; unfold AE at c2; generalize spJ x2 = g at *; obtain ⟨k4, t4, m4, q4, l4, b4⟩ := x2; have ca := BE gk [⟨#[105, 102, 32]⟩, u, ⟨#[32, 116, 104, 101, 110, 32]⟩, v, ⟨#[32, 101, 108, 115, 101, 32]⟩, g, ⟨#[32, 101, 110, 100]⟩] (by simp only [Aa, ByteArray.size_append, bsz, List.length_cons, List.length_nil]; omega); simp only [List.map_cons, List.map_nil] at ca; have hzz : (Aa [⟨#[105, 102, 32]⟩, u, ⟨#[32, 116, 104, 101, 110, 32]⟩, v, ⟨#[32, 101, 108, 115, 101, 32]⟩, g, ⟨#[32, 101, 110, 100]⟩]).size ≤ 1000000000 := (by simp only [Aa, ByteArray.size_append, bsz, List.length_cons, List.length_nil]; omega); generalize Aa [⟨#[105, 102, 32]⟩, u, ⟨#[32, 116, 104, 101, 110, 32]⟩, v, ⟨#[32, 101, 108, 115, 101, 32]⟩, g, ⟨#[32, 101, 110, 100]⟩] = z at ca hzz ⊢; refine ACalls.enter Tryz.func36 rfl rfl gk Tryz.ntmps36 fun X F => ?_
 apply Ar F; go_simp; apply Ar F; go_simp; (repeat apply Aq); apply Ab; apply Ar F; go_simp; (repeat apply Aq); refine At (by go_simp) ?_; (repeat apply Aq); refine Ad F [0, 1, 2, 3, 5, 6, 7, 8, 10, 11, 12, 13, 4, 9, 14, 15, 16, 17] [(6, 4), (7, 4), (8, 4), (11, 4), (11, 9), (12, 4), (12, 9), (13, 4), (13, 9)] mixed (by kernel_rfl) ?_; go_simp; refine ⟨_, c0, ?_⟩; go_simp; refine ⟨_, c1, ?_⟩; go_simp; refine ⟨_, c2, ?_⟩; go_simp; refine ⟨_, ca, ?_⟩; go_simp; apply Au; go_simp
theorem Vc (gk : GK G) (t1 : ByteArray) (m1 q1 : Int) (b1 : List ByteArray) (x0 : NJ) (c0 : AE G x0) (h0 : (spJ x0).size ≤ 10000000) : ACalls Tryz.prog G 36 none [.agg (Ag (.mk 18 t1 m1 q1 [x0] b1))] (.ret (sI (Aa [⟨#[40, 116, 114, 121, 32]⟩, tgB (Av x0) (spJ x0)] ++ ⟨#[41]⟩)) []) := by
 have d0 := CF gk x0 c0 (by omega); have hT0 : (tgB (Av x0) (spJ x0)).size ≤ 20000000 := by unfold tgB; split <;> first | omega | (rw [Bc]; omega)
 generalize tgB (Av x0) (spJ x0) = T0 at *; unfold AE at c0; generalize spJ x0 = u at *; obtain ⟨k2, t2, m2, q2, l2, b2⟩ := x0; have ca := BE gk [⟨#[40, 116, 114, 121, 32]⟩, T0] (by simp only [Aa, ByteArray.size_append, bsz, List.length_cons, List.length_nil]; omega); simp only [List.map_cons, List.map_nil] at ca; have hzz : (Aa [⟨#[40, 116, 114, 121, 32]⟩, T0]).size ≤ 1000000000 := (by simp only [Aa, ByteArray.size_append, bsz, List.length_cons, List.length_nil]; omega); generalize Aa [⟨#[40, 116, 114, 121, 32]⟩, T0] = z at ca hzz ⊢; refine ACalls.enter Tryz.func36 rfl rfl gk Tryz.ntmps36 fun X F => ?_
 apply Ar F; go_simp; apply Ar F; go_simp; (repeat apply Aq); apply Ab; apply Ar F; go_simp; (repeat apply Aq); refine Af (by go_simp) ?_; apply Ar F; go_simp; (repeat apply Aq); refine At (by go_simp) ?_; apply Ar F; go_simp; refine ⟨_, d0, ?_⟩; go_simp; refine ⟨_, ca, ?_⟩; go_simp; apply Ar F; go_simp; (repeat apply Aq); refine Af (by go_simp) ?_; apply As; go_simp; apply Ar F; go_simp; repeat (refine And.intro (by omega) ?_; go_simp)
 apply Au; go_simp
theorem UL (gk : GK G) (t1 : ByteArray) (m1 q1 : Int) (b1 : List ByteArray) (x0 x1 : NJ) (c0 : AE G x0) (h0 : (spJ x0).size ≤ 10000000) (c1 : AE G x1) (h1 : (spJ x1).size ≤ 10000000) : ACalls Tryz.prog G 36 none [.agg (Ag (.mk 18 t1 m1 q1 [x0, x1] b1))] (.ret (sI (Aa [⟨#[40, 116, 114, 121, 32]⟩, tgB (Av x0) (spJ x0)] ++ Aa [⟨#[32, 99, 97, 116, 99, 104, 32]⟩, tgB (Av x1) (spJ x1)] ++ ⟨#[41]⟩)) []) := by
 have d0 := CF gk x0 c0 (by omega); have hT0 : (tgB (Av x0) (spJ x0)).size ≤ 20000000 := by unfold tgB; split <;> first | omega | (rw [Bc]; omega)
 generalize tgB (Av x0) (spJ x0) = T0 at *; have d1 := CF gk x1 c1 (by omega); have hT1 : (tgB (Av x1) (spJ x1)).size ≤ 20000000 := by unfold tgB; split <;> first | omega | (rw [Bc]; omega)
 generalize tgB (Av x1) (spJ x1) = T1 at *; unfold AE at c0; generalize spJ x0 = u at *; obtain ⟨k2, t2, m2, q2, l2, b2⟩ := x0; unfold AE at c1; generalize spJ x1 = v at *; obtain ⟨k3, t3, m3, q3, l3, b3⟩ := x1; have ca := BE gk [⟨#[40, 116, 114, 121, 32]⟩, T0] (by simp only [Aa, ByteArray.size_append, bsz, List.length_cons, List.length_nil]; omega); simp only [List.map_cons, List.map_nil] at ca; have hzz : (Aa [⟨#[40, 116, 114, 121, 32]⟩, T0]).size ≤ 1000000000 := (by simp only [Aa, ByteArray.size_append, bsz, List.length_cons, List.length_nil]; omega); generalize Aa [⟨#[40, 116, 114, 121, 32]⟩, T0] = z at ca hzz ⊢; have cb := BE gk [⟨#[32, 99, 97, 116, 99, 104, 32]⟩, T1] (by simp only [Aa, ByteArray.size_append, bsz, List.length_cons, List.length_nil]; omega); simp only [List.map_cons, List.map_nil] at cb; have hzy : (Aa [⟨#[32, 99, 97, 116, 99, 104, 32]⟩, T1]).size ≤ 100000000 := (by simp only [Aa, ByteArray.size_append, bsz, List.length_cons, List.length_nil]; omega); generalize Aa [⟨#[32, 99, 97, 116, 99, 104, 32]⟩, T1] = y at cb hzy ⊢; refine ACalls.enter Tryz.func36 rfl rfl gk Tryz.ntmps36 fun X F => ?_
 apply Ar F; go_simp; apply Ar F; go_simp; (repeat apply Aq); apply Ab; apply Ar F; go_simp; (repeat apply Aq); refine Af (by go_simp) ?_; apply Ar F; go_simp; (repeat apply Aq); refine At (by go_simp) ?_; apply Ar F; go_simp; refine ⟨_, d0, ?_⟩; go_simp; refine ⟨_, ca, ?_⟩; go_simp; apply Ar F; go_simp; (repeat apply Aq); refine At (by go_simp) ?_; apply Ar F; go_simp; refine ⟨_, d1, ?_⟩; go_simp; refine ⟨_, cb, ?_⟩; go_simp; repeat (refine And.intro (by omega) ?_; go_simp)
 apply Ar F; go_simp; repeat (refine And.intro (by omega) ?_; go_simp)
 apply Au; go_simp
theorem Vt (gk : GK G) (t1 : ByteArray) (m1 q1 : Int) (b1 : List ByteArray) (ht1 : t1.size ≤ 10000000) (x0 x1 x2 : NJ) (hw : (BK ⟨#[59, 32]⟩ ⟨#[]⟩ ([x1, x2].map spJ)).size ≤ 10000000) (c0 : AE G x0) (h0 : (spJ x0).size ≤ 10000000) (c1 : AE G x1) (h1 : (spJ x1).size ≤ 10000000) (c2 : AE G x2) (h2 : (spJ x2).size ≤ 10000000) : ACalls Tryz.prog G 36 none [.agg (Ag (.mk 19 t1 m1 q1 [x0, x1, x2] b1))] (.ret (sI (Aa [⟨#[114, 101, 100, 117, 99, 101, 32]⟩, tgB (Av x0) (spJ x0), ⟨#[32, 97, 115, 32, 36]⟩, t1, ⟨#[32, 40]⟩, BK ⟨#[59, 32]⟩ ⟨#[]⟩ ([x1, x2].map spJ), ⟨#[41]⟩])) []) := by
 have cw := Fa gk [x1, x2] ⟨#[59, 32]⟩ (by simp only [List.mem_cons, List.not_mem_nil, or_false]; rintro x (rfl | rfl) <;> assumption) (by simp only [List.mem_cons, List.not_mem_nil, or_false]; rintro x (rfl | rfl) <;> assumption) (by decide) (by omega); generalize BK ⟨#[59, 32]⟩ ⟨#[]⟩ ([x1, x2].map spJ) = w at *; have d0 := CF gk x0 c0 (by omega); have hT0 : (tgB (Av x0) (spJ x0)).size ≤ 20000000 := by unfold tgB; split <;> first | omega | (rw [Bc]; omega)
 generalize tgB (Av x0) (spJ x0) = T0 at *; unfold AE at c0; generalize spJ x0 = u at *; obtain ⟨k2, t2, m2, q2, l2, b2⟩ := x0; unfold AE at c1; generalize spJ x1 = v at *; obtain ⟨k3, t3, m3, q3, l3, b3⟩ := x1; unfold AE at c2; generalize spJ x2 = g at *; obtain ⟨k4, t4, m4, q4, l4, b4⟩ := x2; simp only [AJ, Ag] at cw; have ca := BE gk [⟨#[114, 101, 100, 117, 99, 101, 32]⟩, T0, ⟨#[32, 97, 115, 32, 36]⟩, t1, ⟨#[32, 40]⟩, w, ⟨#[41]⟩] (by simp only [Aa, ByteArray.size_append, bsz, List.length_cons, List.length_nil]; omega); simp only [List.map_cons, List.map_nil] at ca; have hzz : (Aa [⟨#[114, 101, 100, 117, 99, 101, 32]⟩, T0, ⟨#[32, 97, 115, 32, 36]⟩, t1, ⟨#[32, 40]⟩, w, ⟨#[41]⟩]).size ≤ 1000000000 := (by simp only [Aa, ByteArray.size_append, bsz, List.length_cons, List.length_nil]; omega); generalize Aa [⟨#[114, 101, 100, 117, 99, 101, 32]⟩, T0, ⟨#[32, 97, 115, 32, 36]⟩, t1, ⟨#[32, 40]⟩, w, ⟨#[41]⟩] = z at ca hzz ⊢; refine ACalls.enter Tryz.func36 rfl rfl gk Tryz.ntmps36 fun X F => ?_
 apply Ar F;go_simp;apply Ar F;go_simp;(repeat apply Aq);apply Ab;(iterate 2 apply Ar F;go_simp;(repeat apply Aq);refine Af (by go_simp) ?_);apply Ar F;go_simp;(repeat apply Aq);refine At (by go_simp) ?_;(repeat apply Aq);refine Ad F [0, 1, 2, 3, 5, 6, 7, 8, 9, 4, 10, 11, 12, 13] [(6, 4), (6, 10), (8, 4)] mixed (by kernel_rfl) ?_;go_simp;refine ⟨_, d0, ?_⟩;go_simp;refine ⟨_, cw, ?_⟩;go_simp;refine ⟨_, ca, ?_⟩;go_simp;apply Au;go_simp
theorem VE (gk : GK G) (t1 : ByteArray) (m1 q1 : Int) (b1 : List ByteArray) (ht1 : t1.size ≤ 10000000) (x0 x1 x2 x3 : NJ) (hw : (BK ⟨#[59, 32]⟩ ⟨#[]⟩ ([x1, x2, x3].map spJ)).size ≤ 10000000) (c0 : AE G x0) (h0 : (spJ x0).size ≤ 10000000) (c1 : AE G x1) (h1 : (spJ x1).size ≤ 10000000) (c2 : AE G x2) (h2 : (spJ x2).size ≤ 10000000) (c3 : AE G x3) (h3 : (spJ x3).size ≤ 10000000) : ACalls Tryz.prog G 36 none [.agg (Ag (.mk 20 t1 m1 q1 [x0, x1, x2, x3] b1))] (.ret (sI (Aa [⟨#[102, 111, 114, 101, 97, 99, 104, 32]⟩, tgB (Av x0) (spJ x0), ⟨#[32, 97, 115, 32, 36]⟩, t1, ⟨#[32, 40]⟩, BK ⟨#[59, 32]⟩ ⟨#[]⟩ ([x1, x2, x3].map spJ), ⟨#[41]⟩])) []) := by
 have cw := Fa gk [x1, x2, x3] ⟨#[59, 32]⟩ (by simp only [List.mem_cons, List.not_mem_nil, or_false]; rintro x (rfl | rfl | rfl) <;> assumption) (by simp only [List.mem_cons, List.not_mem_nil, or_false]; rintro x (rfl | rfl | rfl) <;> assumption) (by decide) (by omega); generalize BK ⟨#[59, 32]⟩ ⟨#[]⟩ ([x1, x2, x3].map spJ) = w at *; have d0 := CF gk x0 c0 (by omega); have hT0 : (tgB (Av x0) (spJ x0)).size ≤ 20000000 := by unfold tgB; split <;> first | omega | (rw [Bc]; omega)
 generalize tgB (Av x0) (spJ x0) = T0 at *; unfold AE at c0; generalize spJ x0 = u at *; obtain ⟨k2, t2, m2, q2, l2, b2⟩ := x0; unfold AE at c1; generalize spJ x1 = v at *; obtain ⟨k3, t3, m3, q3, l3, b3⟩ := x1; unfold AE at c2; generalize spJ x2 = g at *; obtain ⟨k4, t4, m4, q4, l4, b4⟩ := x2; unfold AE at c3; generalize spJ x3 = f at *; obtain ⟨k5, t5, m5, q5, l5, b5⟩ := x3; simp only [AJ, Ag] at cw; have ca := BE gk [⟨#[102, 111, 114, 101, 97, 99, 104, 32]⟩, T0, ⟨#[32, 97, 115, 32, 36]⟩, t1, ⟨#[32, 40]⟩, w, ⟨#[41]⟩] (by simp only [Aa, ByteArray.size_append, bsz, List.length_cons, List.length_nil]; omega); simp only [List.map_cons, List.map_nil] at ca; have hzz : (Aa [⟨#[102, 111, 114, 101, 97, 99, 104, 32]⟩, T0, ⟨#[32, 97, 115, 32, 36]⟩, t1, ⟨#[32, 40]⟩, w, ⟨#[41]⟩]).size ≤ 1000000000 := (by simp only [Aa, ByteArray.size_append, bsz, List.length_cons, List.length_nil]; omega); generalize Aa [⟨#[102, 111, 114, 101, 97, 99, 104, 32]⟩, T0, ⟨#[32, 97, 115, 32, 36]⟩, t1, ⟨#[32, 40]⟩, w, ⟨#[41]⟩] = z at ca hzz ⊢; refine ACalls.enter Tryz.func36 rfl rfl gk Tryz.ntmps36 fun X F => ?_
 apply Ar F;go_simp;apply Ar F;go_simp;(repeat apply Aq);apply Ab;(iterate 3 apply Ar F;go_simp;(repeat apply Aq);refine Af (by go_simp) ?_);apply Ar F;go_simp;(repeat apply Aq);refine At (by go_simp) ?_;(repeat apply Aq);refine Ad F [0, 1, 2, 3, 5, 6, 7, 8, 9, 4, 10, 11, 12, 13] [(6, 4), (6, 10), (8, 4)] mixed (by kernel_rfl) ?_;go_simp;refine ⟨_, d0, ?_⟩;go_simp;refine ⟨_, cw, ?_⟩;go_simp;refine ⟨_, ca, ?_⟩;go_simp;apply Au;go_simp
theorem Wa (gk : GK G) (t1 : ByteArray) (m1 q1 : Int) (b1 : List ByteArray) (ht1 : t1.size ≤ 10000000) (x0 x1 : NJ) (c0 : AE G x0) (h0 : (spJ x0).size ≤ 10000000) (c1 : AE G x1) (h1 : (spJ x1).size ≤ 10000000) : ACalls Tryz.prog G 36 none [.agg (Ag (.mk 21 t1 m1 q1 [x0, x1] b1))] (.ret (sI (Aa [⟨#[40]⟩, tgB (Av x0) (spJ x0), ⟨#[32, 97, 115, 32, 36]⟩, t1, ⟨#[32, 124, 32]⟩, spJ x1, ⟨#[41]⟩])) []) := by
 have d0 := CF gk x0 c0 (by omega); have hT0 : (tgB (Av x0) (spJ x0)).size ≤ 20000000 := by unfold tgB; split <;> first | omega | (rw [Bc]; omega)
 generalize tgB (Av x0) (spJ x0) = T0 at *; unfold AE at c0; generalize spJ x0 = u at *; obtain ⟨k2, t2, m2, q2, l2, b2⟩ := x0; unfold AE at c1; generalize spJ x1 = v at *; obtain ⟨k3, t3, m3, q3, l3, b3⟩ := x1; have ca := BE gk [⟨#[40]⟩, T0, ⟨#[32, 97, 115, 32, 36]⟩, t1, ⟨#[32, 124, 32]⟩, v, ⟨#[41]⟩] (by simp only [Aa, ByteArray.size_append, bsz, List.length_cons, List.length_nil]; omega); simp only [List.map_cons, List.map_nil] at ca; have hzz : (Aa [⟨#[40]⟩, T0, ⟨#[32, 97, 115, 32, 36]⟩, t1, ⟨#[32, 124, 32]⟩, v, ⟨#[41]⟩]).size ≤ 1000000000 := (by simp only [Aa, ByteArray.size_append, bsz, List.length_cons, List.length_nil]; omega); generalize Aa [⟨#[40]⟩, T0, ⟨#[32, 97, 115, 32, 36]⟩, t1, ⟨#[32, 124, 32]⟩, v, ⟨#[41]⟩] = z at ca hzz ⊢; refine ACalls.enter Tryz.func36 rfl rfl gk Tryz.ntmps36 fun X F => ?_
 apply Ar F;go_simp;apply Ar F;go_simp;(repeat apply Aq);apply Ab;(iterate 4 apply Ar F;go_simp;(repeat apply Aq);refine Af (by go_simp) ?_);apply Ar F;go_simp;(repeat apply Aq);refine At (by go_simp) ?_;(repeat apply Aq);refine Ad F [0, 1, 2, 3, 5, 6, 7, 8, 9, 10, 4, 11, 12, 13, 14] [(6, 4), (6, 11), (8, 4), (9, 4), (10, 4)] mixed (by kernel_rfl) ?_;go_simp;refine ⟨_, d0, ?_⟩;go_simp;refine ⟨_, c1, ?_⟩;go_simp;refine ⟨_, ca, ?_⟩;go_simp;apply Au;go_simp
theorem V2 (gk : GK G) (t1 : ByteArray) (m1 q1 : Int) (b1 : List ByteArray) (l1 : List NJ) (ht1 : t1.size ≤ 10000000)  : ACalls Tryz.prog G 36 none [.agg (Ag (.mk 22 t1 m1 q1 l1 b1))] (.ret (sI (⟨#[36]⟩ ++ t1)) []) := by
 refine ACalls.enter Tryz.func36 rfl rfl gk Tryz.ntmps36 fun X F => ?_
 apply Ar F;go_simp;apply Ar F;go_simp;(repeat apply Aq);apply Ab;(iterate 5 apply Ar F;go_simp;(repeat apply Aq);refine Af (by go_simp) ?_);apply Ar F;go_simp;(repeat apply Aq);refine At (by go_simp) ?_;apply Ar F;go_simp;repeat (refine And.intro (by omega) ?_; go_simp)
 apply Au; go_simp
theorem UO (gk : GK G) (t1 : ByteArray) (m1 q1 : Int) (b1 : List ByteArray)  : ACalls Tryz.prog G 36 none [.agg (Ag (.mk 23 t1 m1 q1 [] b1))] (.ret (sI t1) []) := by
 refine ACalls.enter Tryz.func36 rfl rfl gk Tryz.ntmps36 fun X F => ?_
 apply Ar F;go_simp;apply Ar F;go_simp;(repeat apply Aq);apply Ab;(iterate 6 apply Ar F;go_simp;(repeat apply Aq);refine Af (by go_simp) ?_);apply Ar F;go_simp;(repeat apply Aq);refine At (by go_simp) ?_;apply Ar F;go_simp;(repeat apply Aq);refine Af (by go_simp) ?_;apply As;go_simp;apply Ar F;go_simp;apply Au;go_simp
theorem UY (gk : GK G) (t1 : ByteArray) (m1 q1 : Int) (b1 : List ByteArray) (l1 : List NJ) (hl : 0 < l1.length) (ht1 : t1.size ≤ 10000000) (ht : ∀ x ∈ l1, AE G x) (hs : ∀ x ∈ l1, (spJ x).size ≤ 10000000) (hw : (BK ⟨#[59, 32]⟩ ⟨#[]⟩ (l1.map spJ)).size ≤ 10000000) : ACalls Tryz.prog G 36 none [.agg (Ag (.mk 23 t1 m1 q1 l1 b1))] (.ret (sI (Aa [t1, ⟨#[40]⟩, BK ⟨#[59, 32]⟩ ⟨#[]⟩ (l1.map spJ), ⟨#[41]⟩])) []) := by
 have cw := Fa gk l1 ⟨#[59, 32]⟩ ht hs (by decide) hw; generalize BK ⟨#[59, 32]⟩ ⟨#[]⟩ (l1.map spJ) = w at *; have hlI : 0 < (l1.length : Int) := by omega
 have ca := BE gk [t1, ⟨#[40]⟩, w, ⟨#[41]⟩] (by simp only [Aa, ByteArray.size_append, bsz, List.length_cons, List.length_nil]; omega); simp only [List.map_cons, List.map_nil] at ca; have hzz : (Aa [t1, ⟨#[40]⟩, w, ⟨#[41]⟩]).size ≤ 1000000000 := (by simp only [Aa, ByteArray.size_append, bsz, List.length_cons, List.length_nil]; omega); generalize Aa [t1, ⟨#[40]⟩, w, ⟨#[41]⟩] = z at ca hzz ⊢; refine ACalls.enter Tryz.func36 rfl rfl gk Tryz.ntmps36 fun X F => ?_
 apply Ar F;go_simp;apply Ar F;go_simp;(repeat apply Aq);apply Ab;(iterate 6 apply Ar F;go_simp;(repeat apply Aq);refine Af (by go_simp) ?_);(iterate 2 apply Ar F;go_simp;(repeat apply Aq);refine At (by go_simp) ?_);(repeat apply Aq);refine Ad F [0, 1, 2, 3, 4, 5, 6, 7] [(1, 4)] mixed (by kernel_rfl) ?_;go_simp;refine ⟨_, cw, ?_⟩;go_simp;refine ⟨_, ca, ?_⟩;go_simp;apply Au;go_simp
theorem Us (gk : GK G) (t1 : ByteArray) (m1 q1 : Int) (ht1 : t1.size ≤ 10000000) (x0 x1 : NJ) (c0 : AE G x0) (h0 : (spJ x0).size ≤ 10000000) (c1 : AE G x1) (h1 : (spJ x1).size ≤ 10000000) : ACalls Tryz.prog G 36 none [.agg (Ag (.mk 24 t1 m1 q1 [x0, x1] []))] (.ret (sI (Aa [⟨#[40, 100, 101, 102, 32]⟩, t1, ⟨#[]⟩, ⟨#[58, 32]⟩, spJ x0, ⟨#[59, 32]⟩, spJ x1, ⟨#[41]⟩])) []) := by
 unfold AE at c0; generalize spJ x0 = u at *; obtain ⟨k2, t2, m2, q2, l2, b2⟩ := x0; unfold AE at c1; generalize spJ x1 = v at *; obtain ⟨k3, t3, m3, q3, l3, b3⟩ := x1; have ca := BE gk [⟨#[40, 100, 101, 102, 32]⟩, t1, ⟨#[]⟩, ⟨#[58, 32]⟩, u, ⟨#[59, 32]⟩, v, ⟨#[41]⟩] (by simp only [Aa, ByteArray.size_append, bsz, List.length_cons, List.length_nil]; omega); simp only [List.map_cons, List.map_nil] at ca; have hzz : (Aa [⟨#[40, 100, 101, 102, 32]⟩, t1, ⟨#[]⟩, ⟨#[58, 32]⟩, u, ⟨#[59, 32]⟩, v, ⟨#[41]⟩]).size ≤ 1000000000 := (by simp only [Aa, ByteArray.size_append, bsz, List.length_cons, List.length_nil]; omega); generalize Aa [⟨#[40, 100, 101, 102, 32]⟩, t1, ⟨#[]⟩, ⟨#[58, 32]⟩, u, ⟨#[59, 32]⟩, v, ⟨#[41]⟩] = z at ca hzz ⊢; refine ACalls.enter Tryz.func36 rfl rfl gk Tryz.ntmps36 fun X F => ?_
 apply Ar F;go_simp;apply Ar F;go_simp;(repeat apply Aq);apply Ab;(iterate 7 apply Ar F;go_simp;(repeat apply Aq);refine Af (by go_simp) ?_);apply As;go_simp;apply Ar F;go_simp;apply Ar F;go_simp;(repeat apply Aq);refine Af (by go_simp) ?_;apply As;go_simp;(repeat apply Aq);refine Ad F [0, 1, 2, 3, 4, 5, 6, 8, 9, 10, 11, 7, 12, 13, 14, 15] [(1, 7), (1, 12), (9, 7), (10, 7), (11, 7)] mixed (by kernel_rfl) ?_;go_simp;refine ⟨_, c0, ?_⟩;go_simp;refine ⟨_, c1, ?_⟩;go_simp;refine ⟨_, ca, ?_⟩;go_simp;apply Au;go_simp
theorem Vk (gk : GK G) (t1 : ByteArray) (m1 q1 : Int) (b1 : List ByteArray) (hb : 0 < b1.length) (hw : (AP ⟨#[59, 32]⟩ b1).size ≤ 10000000) (ht1 : t1.size ≤ 10000000) (x0 x1 : NJ) (c0 : AE G x0) (h0 : (spJ x0).size ≤ 10000000) (c1 : AE G x1) (h1 : (spJ x1).size ≤ 10000000) : ACalls Tryz.prog G 36 none [.agg (Ag (.mk 24 t1 m1 q1 [x0, x1] b1))] (.ret (sI (Aa [⟨#[40, 100, 101, 102, 32]⟩, t1, Aa [⟨#[40]⟩, AP ⟨#[59, 32]⟩ b1, ⟨#[41]⟩], ⟨#[58, 32]⟩, spJ x0, ⟨#[59, 32]⟩, spJ x1, ⟨#[41]⟩])) []) := by
 have cj := OP (G := G) b1 ⟨#[59, 32]⟩ (by omega); generalize AP ⟨#[59, 32]⟩ b1 = w at *; have hbI : 0 < (b1.length : Int) := by omega
 have cp := BE gk [⟨#[40]⟩, w, ⟨#[41]⟩] (by simp only [Aa, ByteArray.size_append, bsz, List.length_cons, List.length_nil]; omega); simp only [List.map_cons, List.map_nil] at cp; have hzy : (Aa [⟨#[40]⟩, w, ⟨#[41]⟩]).size ≤ 100000000 := (by simp only [Aa, ByteArray.size_append, bsz, List.length_cons, List.length_nil]; omega); generalize Aa [⟨#[40]⟩, w, ⟨#[41]⟩] = y at cp hzy ⊢; unfold AE at c0; generalize spJ x0 = u at *; obtain ⟨k2, t2, m2, q2, l2, b2⟩ := x0; unfold AE at c1; generalize spJ x1 = v at *; obtain ⟨k3, t3, m3, q3, l3, b3⟩ := x1; have ca := BE gk [⟨#[40, 100, 101, 102, 32]⟩, t1, y, ⟨#[58, 32]⟩, u, ⟨#[59, 32]⟩, v, ⟨#[41]⟩] (by simp only [Aa, ByteArray.size_append, bsz, List.length_cons, List.length_nil]; omega); simp only [List.map_cons, List.map_nil] at ca; have hzz : (Aa [⟨#[40, 100, 101, 102, 32]⟩, t1, y, ⟨#[58, 32]⟩, u, ⟨#[59, 32]⟩, v, ⟨#[41]⟩]).size ≤ 1000000000 := (by simp only [Aa, ByteArray.size_append, bsz, List.length_cons, List.length_nil]; omega); generalize Aa [⟨#[40, 100, 101, 102, 32]⟩, t1, y, ⟨#[58, 32]⟩, u, ⟨#[59, 32]⟩, v, ⟨#[41]⟩] = z at ca hzz ⊢; refine ACalls.enter Tryz.func36 rfl rfl gk Tryz.ntmps36 fun X F => ?_
 apply Ar F;go_simp;apply Ar F;go_simp;(repeat apply Aq);apply Ab;(iterate 7 apply Ar F;go_simp;(repeat apply Aq);refine Af (by go_simp) ?_);apply As;go_simp;apply Ar F;go_simp;apply Ar F;go_simp;(repeat apply Aq);refine At (by go_simp) ?_;apply Ar F;go_simp;refine ⟨_, cj, ?_⟩;go_simp;refine ⟨_, cp, ?_⟩;go_simp;(repeat apply Aq);refine Ad F [0, 1, 2, 3, 4, 5, 6, 8, 9, 10, 11, 7, 12, 13, 14, 15] [(1, 7), (1, 12), (9, 7), (10, 7), (11, 7)] mixed (by kernel_rfl) ?_;go_simp;refine ⟨_, c0, ?_⟩;go_simp;refine ⟨_, c1, ?_⟩;go_simp;refine ⟨_, ca, ?_⟩;go_simp;apply Au;go_simp
open Go Go.RowKit Go.Proofs Th
theorem M4 (most : Nat) : ∀ (a : List ByteArray) (acc : Nat), DY most a acc ≤ most → acc + (a.map fun x => 1 + x.size).sum = DY most a acc
 | [], acc, _ => by simp [DY]
 | x :: r, acc, h => by
  unfold DY at h ⊢; split at h
  ·rename_i hc
   rw [if_pos hc, ← M4 most r _ h, List.map_cons, List.sum_cons]; omega
  omega
theorem Jh : ∀ (l : List NJ) (most acc : Nat), acc ≤ CH l most acc
 | [], most, acc => by rw [CH]; omega
 | x :: r, most, acc => by
  rw [CH]; split
  ·exact Nat.le_trans (by omega) (Jh r most _)
  exact Nat.le_refl _
mutual
theorem Pc : ∀ (n : NJ) (most : Nat), Dd n most ≤ most → wtJ n = Dd n most
 | .mk k s m e l a, most, h => by
  rw [Dd] at h ⊢; split at h
  ·omega
  rename_i hc
  rw [if_neg hc, wtJ, ← My l most _ h, ← M4 most a _ (Nat.le_trans (Jh l most _) h)]
theorem My : ∀ (l : List NJ) (most acc : Nat), CH l most acc ≤ most → acc + wtL l = CH l most acc
 | [], most, acc, h => by rw [CH, wtL]; rfl
 | x :: r, most, acc, h => by
  rw [CH] at h ⊢; split at h
  ·rename_i hc
   have h1 := Jh r most (acc + Dd x (most - acc)); rw [if_pos hc, ← My r most _ h, wtL, Pc x (most - acc) (by omega)]; omega
  omega
end
theorem KN {x : ByteArray} : ∀ {a : List ByteArray}, x ∈ a → x.size ≤ (a.map fun x => 1 + x.size).sum
 | b :: r, h => by
  rw [List.map_cons, List.sum_cons]; rcases List.mem_cons.1 h with rfl | h
  ·omega
  have := KN h; omega
mutual
theorem Jm : ∀ (n : NJ), wtJ n ≤ 100000000 → F8 n
 | .mk k s m e l a, h => by
  rw [wtJ] at h; exact ⟨by omega, fun x hx => by have := KN hx; omega, L0 l (by omega)⟩
theorem L0 : ∀ (l : List NJ), wtL l ≤ 100000000 → Ge l
 | [], _ => trivial
 | x :: r, h => by rw [wtL] at h; exact ⟨Jm x (by omega), L0 r (by omega)⟩
end
mutual
theorem NS : ∀ n : NJ, Bp n ≤ wtJ n
 | .mk k s m e l a => by have := Pj l; rw [Bp, wtJ]; omega
theorem Pj : ∀ l : List NJ, CJ l ≤ wtL l
 | [] => by rw [CJ]; omega
 | x :: r => by have := NS x; have := Pj r; rw [CJ, wtL]; omega
end
open Go Go.RowKit Go.Proofs Th
set_option maxRecDepth 8000
variable {G : World → CS → Prop}
theorem V4 (gk : GK G) (hN : Ki G) (hQ : Ku G) : ∀ (d : Nat) (n : NJ), d ≤ 1000 → Cy n → ACalls Tryz.prog G 18 none [.agg (Ag n), iI d] (.ret (bI (Ch d n)) []) := by
 intro d; induction d with
 | zero =>
  intro n _ hn; obtain ⟨z, hz⟩ : ∃ z, Ch 0 n = z := ⟨_, rfl⟩
  rw [hz]; rw [Ch] at hz; subst hz; obtain ⟨k1, t1, m1, q1, l1, b1⟩ := n; refine ACalls.enter Tryz.func18 rfl rfl gk Tryz.ntmps18 fun X F => ?_
  apply Ar F; go_simp; apply Ar F; go_simp; (repeat apply Aq); refine At (by go_simp) ?_; apply Ar F; go_simp; apply Au; go_simp
 | succ d ih =>
  intro n hd hn; have cb := Vf gk n; have cf := UW gk hN hQ n hn; obtain ⟨k1, t1, m1, q1, l1, b1⟩ := n; obtain ⟨_, _, _, _, _, hkl⟩ := hn; have hd0 : ¬ ((d + 1 : Nat) : Int) = 0 := by omega
  obtain ⟨z, hz⟩ : ∃ z, Ch (d + 1) (.mk k1 t1 m1 q1 l1 b1) = z := ⟨_, rfl⟩
  rw [hz]; rw [Ch, AB] at hz; generalize Ax (.mk k1 t1 m1 q1 l1 b1) = bv at cb hz; generalize Ai (.mk k1 t1 m1 q1 l1 b1) = fv at cf hz; generalize hD : ((d + 1 : Nat) : Int) = D at *; refine ACalls.enter Tryz.func18 rfl rfl gk Tryz.ntmps18 fun X F => ?_
  cases bv
  ·have hz2 : z = false := by rw [← hz]; simp
   subst hz2; apply Ar F; go_simp; apply Ar F; go_simp; refine ⟨_, cb, ?_⟩; go_simp; (repeat apply Aq); refine At (by go_simp) ?_; apply Ar F; go_simp; apply Au; go_simp
  cases fv
  ·have hz2 : z = false := by rw [← hz]; simp
   subst hz2; apply Ar F; go_simp; apply Ar F; go_simp; refine ⟨_, cb, ?_⟩; go_simp; refine ⟨_, cf, ?_⟩; go_simp; (repeat apply Aq); refine At (by go_simp) ?_; apply Ar F; go_simp; apply Au; go_simp
  rw [Bool.true_and, Bool.true_and, JC] at hz; apply Ar F; go_simp; apply Ar F; go_simp; refine ⟨_, cb, ?_⟩; go_simp; refine ⟨_, cf, ?_⟩; go_simp; (repeat apply Aq); refine Af (by go_simp) ?_; apply As; go_simp; (repeat apply Aq); refine Vx (l1.any (fun k => !Ch d k)) (f := 44) (fc := 45) (t := 3) (u := 18) (b := 3) (d1 := 19) (d2 := 20) F gk [_, _] [_, _] _ _ rfl (by decide) ⟨rfl, rfl, rfl, by decide⟩ ⟨rfl, rfl, rfl, rfl, rfl, by decide⟩ ?_; go_simp; refine ⟨⟨by go_simp, ((d + 1 : Nat) : Int), AJ l1, by rw [hD]; go_simp, by go_simp, fun g o => MT (gkL gk) l1 g o _ fun x hx => ST gk d (by omega) x g o (ih x (by omega) ((CY l1).1 hkl x hx))⟩, ?_⟩; go_simp; apply Au; go_simp; rw [← hz]; exact List.all_eq_not_any_not ..
theorem Jn (gk : GK G) (hN : Ki G) (hQ : Ku G) (n : NJ) (hn : Cy n) : ACalls Tryz.prog G 11 none [.agg (Ag n)] (.ret (bI (Ch 48 n)) []) := by
 have cm := V4 gk hN hQ 48 n (by decide) hn; generalize Ch 48 n = z at cm; rw [show ((48 : Nat) : Int) = 48 from rfl] at cm; obtain ⟨k1, t1, m1, q1, l1, b1⟩ := n; refine ACalls.enter Tryz.func11 rfl rfl gk Tryz.ntmps11 fun X F => ?_
 apply Ar F; go_simp; apply Ar F; go_simp; refine ⟨_, cm, ?_⟩; go_simp; apply Au; go_simp
theorem LK (gk : GK G) (hN : Ir G) (hQ : Iq G) (hR : IC G) (n : NJ) (hn : Cy n) (hs : F8 n) (hd : Bp n ≤ 4000000000000000000) : ACalls Tryz.prog G 12 none [.agg (Ag n)] (.ret (bI (Ch 48 n)) []) := by
 have cd := UK gk (Bp n) hd n (Nat.le_refl _); have ca := WS gk hN hQ hR (Bp n) n (Nat.le_refl _) hn hs; rw [Ht]; generalize Bp n = D at cd hd ca; generalize okJ n = ov at ca; obtain ⟨k1, t1, m1, q1, l1, b1⟩ := n; by_cases h48 : D ≤ 48
 ·have hD : (D : Int) ≤ 48 := by omega
  rw [decide_eq_true h48, Bool.true_and]; refine ACalls.enter Tryz.func12 rfl rfl gk Tryz.ntmps12 fun X F => ?_
  apply Ar F; go_simp; apply Ar F; go_simp; refine ⟨_, cd, ?_⟩; go_simp; refine ⟨_, ca, ?_⟩; go_simp; apply Au; go_simp
 have hD : ¬ (D : Int) ≤ 48 := by omega
 rw [decide_eq_false h48, Bool.false_and]; refine ACalls.enter Tryz.func12 rfl rfl gk Tryz.ntmps12 fun X F => ?_
 apply Ar F; go_simp; apply Ar F; go_simp; refine ⟨_, cd, ?_⟩; go_simp; apply Au; go_simp
end Go.Proofs.YtakncilicoefdaaGreatDoor
