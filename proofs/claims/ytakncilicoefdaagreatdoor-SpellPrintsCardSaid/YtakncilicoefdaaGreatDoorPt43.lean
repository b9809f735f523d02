/- Lemmas and contracts. Conditions: those that each lemma names. -/
import Derived.Test.YtakncilicoefdaaGreatDoorPt42
set_option maxRecDepth 100000
set_option maxHeartbeats 8000000
namespace Go.Proofs.YtakncilicoefdaaGreatDoor
open Go Go.RowKit Go.Proofs Th
def Mp (G : World → CS → Prop) : Prop := ∀ m e : Int, I64 m → right m e = true → ACalls Tryz.prog G 37 none [.agg [iI m, iI e]] (.ret (.tup [sI (bs (AL m e)), iI 0]) [])
set_option maxRecDepth 8000
attribute [local go_sem] sel
attribute [local go_sem] Aa ByteArray.size_append bsz eap ape ByteArray.append_assoc
variable {G : World → CS → Prop}
theorem Xf (gk : GK G) (t1 : ByteArray) (m1 q1 : Int) (l1 : List NJ) (b1 : List ByteArray)  : ACalls Tryz.prog G 17 none [.agg (Ag (.mk 1 t1 m1 q1 l1 b1))] (.ret (sI ⟨#[46]⟩) []) := by
 by_cases hlen : l1.length ≤ 140737488351232
 case neg => exact ⟨⟨_, Tryz.func17, rfl, rfl⟩, fun W S p us hG hSb hrc hrep => absurd (by have := Bh (i := 4) hrep rfl; rwa [AF] at this) hlen⟩
 refine ACalls.enter Tryz.func17 rfl rfl gk Tryz.ntmps17 fun X F => ?_
 (iterate 3 apply Ar F;go_simp);(repeat apply Aq);apply Ab;apply Ar F;go_simp;(repeat apply Aq);refine At (by go_simp) ?_;apply Ar F;go_simp;apply Au;go_simp
theorem WA (gk : GK G) (t1 : ByteArray) (m1 q1 : Int) (l1 : List NJ) (b1 : List ByteArray)  : ACalls Tryz.prog G 17 none [.agg (Ag (.mk 26 t1 m1 q1 l1 b1))] (.ret (sI ⟨#[46, 46]⟩) []) := by
 by_cases hlen : l1.length ≤ 140737488351232
 case neg => exact ⟨⟨_, Tryz.func17, rfl, rfl⟩, fun W S p us hG hSb hrc hrep => absurd (by have := Bh (i := 4) hrep rfl; rwa [AF] at this) hlen⟩
 refine ACalls.enter Tryz.func17 rfl rfl gk Tryz.ntmps17 fun X F => ?_
 (iterate 3 apply Ar F;go_simp);(repeat apply Aq);apply Ab;apply Ar F;go_simp;(repeat apply Aq);refine Af (by go_simp) ?_;apply Ar F;go_simp;(repeat apply Aq);refine At (by go_simp) ?_;apply Ar F;go_simp;apply Au;go_simp
theorem WG (gk : GK G) (t1 : ByteArray) (m1 q1 : Int) (l1 : List NJ) (b1 : List ByteArray) (ht1 : t1.size ≤ 10000000)  : ACalls Tryz.prog G 17 none [.agg (Ag (.mk 22 t1 m1 q1 l1 b1))] (.ret (sI (⟨#[36]⟩ ++ t1)) []) := by
 by_cases hlen : l1.length ≤ 140737488351232
 case neg => exact ⟨⟨_, Tryz.func17, rfl, rfl⟩, fun W S p us hG hSb hrc hrep => absurd (by have := Bh (i := 4) hrep rfl; rwa [AF] at this) hlen⟩
 refine ACalls.enter Tryz.func17 rfl rfl gk Tryz.ntmps17 fun X F => ?_
 (iterate 3 apply Ar F;go_simp);(repeat apply Aq);apply Ab;(iterate 2 apply Ar F;go_simp;(repeat apply Aq);refine Af (by go_simp) ?_);apply Ar F;go_simp;(repeat apply Aq);refine At (by go_simp) ?_;apply Ar F;go_simp;repeat (refine And.intro (by omega) ?_; go_simp)
 apply Au; go_simp
theorem Xk (gk : GK G) (hP : Mp G) (t1 : ByteArray) (m1 q1 : Int) (l1 : List NJ) (b1 : List ByteArray) (hm : I64 m1) (hr : right m1 q1 = true)  : ACalls Tryz.prog G 17 none [.agg (Ag (.mk 2 t1 m1 q1 l1 b1))] (.ret (sI (bs (AL m1 q1))) []) := by
 by_cases hlen : l1.length ≤ 140737488351232
 case neg => exact ⟨⟨_, Tryz.func17, rfl, rfl⟩, fun W S p us hG hSb hrc hrep => absurd (by have := Bh (i := 4) hrep rfl; rwa [AF] at this) hlen⟩
 have cp := hP m1 q1 hm hr; generalize bs (AL m1 q1) = z at *; refine ACalls.enter Tryz.func17 rfl rfl gk Tryz.ntmps17 fun X F => ?_
 (iterate 3 apply Ar F;go_simp);(repeat apply Aq);apply Ab;(iterate 3 apply Ar F;go_simp;(repeat apply Aq);refine Af (by go_simp) ?_);apply Ar F;go_simp;(repeat apply Aq);refine At (by go_simp) ?_;apply Ar F;go_simp;refine ⟨_, cp, ?_⟩;go_simp;apply Ar F;go_simp;apply Au;go_simp
theorem Xn (gk : GK G) (hW : Gd G) (t1 : ByteArray) (m1 q1 : Int) (l1 : List NJ) (b1 : List ByteArray) (hs : t1.size ≤ 1000000) (hv : Lib.validD t1.data.toList = true)  : ACalls Tryz.prog G 17 none [.agg (Ag (.mk 3 t1 m1 q1 l1 b1))] (.ret (sI (BQ t1)) []) := by
 by_cases hlen : l1.length ≤ 140737488351232
 case neg => exact ⟨⟨_, Tryz.func17, rfl, rfl⟩, fun W S p us hG hSb hrc hrep => absurd (by have := Bh (i := 4) hrep rfl; rwa [AF] at this) hlen⟩
 have cq := T6 gk hW t1 hs hv; generalize BQ t1 = z at *; refine ACalls.enter Tryz.func17 rfl rfl gk Tryz.ntmps17 fun X F => ?_
 (iterate 3 apply Ar F;go_simp);(repeat apply Aq);apply Ab;(iterate 4 apply Ar F;go_simp;(repeat apply Aq);refine Af (by go_simp) ?_);apply Ar F;go_simp;(repeat apply Aq);refine At (by go_simp) ?_;apply Ar F;go_simp;refine ⟨_, cq, ?_⟩;go_simp;apply Au;go_simp
theorem Xb (gk : GK G) (t1 : ByteArray) (m1 q1 : Int) (b1 : List ByteArray) (x0 x1 : NJ) (c0 : TxR G x0) (h0 : (spJ x0).size ≤ 10000000) (c1 : TxR G x1) (h1 : (spJ x1).size ≤ 10000000) : ACalls Tryz.prog G 17 none [.agg (Ag (.mk 5 t1 m1 q1 [x0, x1] b1))] (.ret (sI (Aa [tgB (Av x0) (spJ x0), ⟨#[91]⟩, spJ x1, ⟨#[93]⟩])) []) := by
 have d0 := C4 gk x0 c0 (by omega); have hT0 : (tgB (Av x0) (spJ x0)).size ≤ 20000000 := by unfold tgB; split <;> first | omega | (rw [Bc]; omega)
 generalize tgB (Av x0) (spJ x0) = T0 at *; unfold TxR at c0; generalize spJ x0 = u at *; obtain ⟨k2, t2, m2, q2, l2, b2⟩ := x0; unfold TxR at c1; generalize spJ x1 = v at *; obtain ⟨k3, t3, m3, q3, l3, b3⟩ := x1; refine ACalls.enter Tryz.func17 rfl rfl gk Tryz.ntmps17 fun X F => ?_
 (iterate 3 apply Ar F;go_simp);(repeat apply Aq);apply Ab;(iterate 6 apply Ar F;go_simp;(repeat apply Aq);refine Af (by go_simp) ?_);apply Ar F;go_simp;(repeat apply Aq);refine At (by go_simp) ?_;(repeat apply Aq);refine Ad F [0, 1, 2, 3, 6, 7, 8, 9, 4, 5, 10, 11, 12, 13] [(7, 4), (8, 4), (9, 4)] mixed (by kernel_rfl) ?_;go_simp;refine ⟨_, d0, ?_⟩;go_simp;repeat (refine And.intro (by omega) ?_; go_simp)
 refine ⟨_, c1, ?_⟩; go_simp; repeat (refine And.intro (by omega) ?_; go_simp)
 apply Au; go_simp; repeat (refine And.intro (by omega) ?_; go_simp)
theorem Xo (gk : GK G) (t1 : ByteArray) (m1 q1 : Int) (b1 : List ByteArray) (x0 : NJ) (c0 : TxR G x0) (h0 : (spJ x0).size ≤ 10000000) : ACalls Tryz.prog G 17 none [.agg (Ag (.mk 7 t1 m1 q1 [x0] b1))] (.ret (sI (Aa [tgB (Av x0) (spJ x0), ⟨#[91, 93]⟩])) []) := by
 have d0 := C4 gk x0 c0 (by omega); have hT0 : (tgB (Av x0) (spJ x0)).size ≤ 20000000 := by unfold tgB; split <;> first | omega | (rw [Bc]; omega)
 generalize tgB (Av x0) (spJ x0) = T0 at *; unfold TxR at c0; generalize spJ x0 = u at *; obtain ⟨k2, t2, m2, q2, l2, b2⟩ := x0; refine ACalls.enter Tryz.func17 rfl rfl gk Tryz.ntmps17 fun X F => ?_
 (iterate 3 apply Ar F;go_simp);(repeat apply Aq);apply Ab;(iterate 7 apply Ar F;go_simp;(repeat apply Aq);refine Af (by go_simp) ?_);apply Ar F;go_simp;(repeat apply Aq);refine At (by go_simp) ?_;apply Ar F;go_simp;refine ⟨_, d0, ?_⟩;go_simp;repeat (refine And.intro (by omega) ?_; go_simp)
 apply Au; go_simp
attribute [local go_sem] A6 toB
theorem WN (gk : GK G) (t1 : ByteArray) (m1 q1 : Int) (x0 x1 : NJ) (c0 : TxR G x0) (h0 : (spJ x0).size ≤ 10000000) (c1 : TxR G x1) (h1 : (spJ x1).size ≤ 10000000) : ACalls Tryz.prog G 17 none [.agg (Ag (.mk 6 t1 m1 q1 [x0, x1] [A6]))] (.ret (sI (Aa [tgB (Av x0) (spJ x0), ⟨#[91]⟩, spJ x1, ⟨#[58]⟩, ⟨#[]⟩, ⟨#[93]⟩])) []) := by
 have d0 := C4 gk x0 c0 (by omega); have hT0 : (tgB (Av x0) (spJ x0)).size ≤ 20000000 := by unfold tgB; split <;> first | omega | (rw [Bc]; omega)
 generalize tgB (Av x0) (spJ x0) = T0 at *; unfold TxR at c0; generalize spJ x0 = u at *; obtain ⟨k2, t2, m2, q2, l2, b2⟩ := x0; unfold TxR at c1; generalize spJ x1 = v at *; obtain ⟨k3, t3, m3, q3, l3, b3⟩ := x1; refine ACalls.enter Tryz.func17 rfl rfl gk Tryz.ntmps17 fun X F => ?_
 (iterate 3 apply Ar F;go_simp);(repeat apply Aq);apply Ab;(iterate 8 apply Ar F;go_simp;(repeat apply Aq);refine Af (by go_simp) ?_);apply Ar F;go_simp;(repeat apply Aq);refine At (by go_simp) ?_;apply Ar F;go_simp;refine ⟨_, d0, ?_⟩;go_simp;repeat (refine And.intro (by omega) ?_; go_simp)
 apply Ar F; go_simp; (repeat apply Aq); refine At (by go_simp) ?_; apply Ar F; go_simp; refine ⟨_, c1, ?_⟩; go_simp; repeat (refine And.intro (by omega) ?_; go_simp)
 apply Ar F; go_simp; repeat (refine And.intro (by omega) ?_; go_simp)
 apply Ar F; go_simp; (repeat apply Aq); refine Af (by go_simp) ?_; apply As; go_simp; apply Ar F; go_simp; repeat (refine And.intro (by omega) ?_; go_simp)
 apply Au; go_simp
theorem WD (gk : GK G) (t1 : ByteArray) (m1 q1 : Int) (x0 x1 : NJ) (c0 : TxR G x0) (h0 : (spJ x0).size ≤ 10000000) (c1 : TxR G x1) (h1 : (spJ x1).size ≤ 10000000) : ACalls Tryz.prog G 17 none [.agg (Ag (.mk 6 t1 m1 q1 [x0, x1] [toB]))] (.ret (sI (Aa [tgB (Av x0) (spJ x0), ⟨#[91]⟩, ⟨#[]⟩, ⟨#[58]⟩, spJ x1, ⟨#[93]⟩])) []) := by
 have d0 := C4 gk x0 c0 (by omega); have hT0 : (tgB (Av x0) (spJ x0)).size ≤ 20000000 := by unfold tgB; split <;> first | omega | (rw [Bc]; omega)
 generalize tgB (Av x0) (spJ x0) = T0 at *; unfold TxR at c0; generalize spJ x0 = u at *; obtain ⟨k2, t2, m2, q2, l2, b2⟩ := x0; unfold TxR at c1; generalize spJ x1 = v at *; obtain ⟨k3, t3, m3, q3, l3, b3⟩ := x1; refine ACalls.enter Tryz.func17 rfl rfl gk Tryz.ntmps17 fun X F => ?_
 (iterate 3 apply Ar F;go_simp);(repeat apply Aq);apply Ab;(iterate 8 apply Ar F;go_simp;(repeat apply Aq);refine Af (by go_simp) ?_);apply Ar F;go_simp;(repeat apply Aq);refine At (by go_simp) ?_;apply Ar F;go_simp;refine ⟨_, d0, ?_⟩;go_simp;repeat (refine And.intro (by omega) ?_; go_simp)
 apply Ar F; go_simp; (repeat apply Aq); refine Af (by go_simp) ?_; apply As; go_simp; apply Ar F; go_simp; repeat (refine And.intro (by omega) ?_; go_simp)
 apply Ar F; go_simp; (repeat apply Aq); refine At (by go_simp) ?_; apply Ar F; go_simp; refine ⟨_, c1, ?_⟩; go_simp; repeat (refine And.intro (by omega) ?_; go_simp)
 apply Ar F; go_simp; repeat (refine And.intro (by omega) ?_; go_simp)
 apply Au; go_simp
theorem WH (gk : GK G) (t1 : ByteArray) (m1 q1 : Int) (x0 x1 x2 : NJ) (c0 : TxR G x0) (h0 : (spJ x0).size ≤ 10000000) (c1 : TxR G x1) (h1 : (spJ x1).size ≤ 10000000) (c2 : TxR G x2) (h2 : (spJ x2).size ≤ 10000000) : ACalls Tryz.prog G 17 none [.agg (Ag (.mk 6 t1 m1 q1 [x0, x1, x2] [A6, toB]))] (.ret (sI (Aa [tgB (Av x0) (spJ x0), ⟨#[91]⟩, spJ x1, ⟨#[58]⟩, spJ x2, ⟨#[93]⟩])) []) := by
 have d0 := C4 gk x0 c0 (by omega); have hT0 : (tgB (Av x0) (spJ x0)).size ≤ 20000000 := by unfold tgB; split <;> first | omega | (rw [Bc]; omega)
 generalize tgB (Av x0) (spJ x0) = T0 at *; unfold TxR at c0; generalize spJ x0 = u at *; obtain ⟨k2, t2, m2, q2, l2, b2⟩ := x0; unfold TxR at c1; generalize spJ x1 = v at *; obtain ⟨k3, t3, m3, q3, l3, b3⟩ := x1; unfold TxR at c2; generalize spJ x2 = g at *; obtain ⟨k4, t4, m4, q4, l4, b4⟩ := x2; refine ACalls.enter Tryz.func17 rfl rfl gk Tryz.ntmps17 fun X F => ?_
 (iterate 3 apply Ar F;go_simp);(repeat apply Aq);apply Ab;(iterate 8 apply Ar F;go_simp;(repeat apply Aq);refine Af (by go_simp) ?_);apply Ar F;go_simp;(repeat apply Aq);refine At (by go_simp) ?_;apply Ar F;go_simp;refine ⟨_, d0, ?_⟩;go_simp;repeat (refine And.intro (by omega) ?_; go_simp)
 apply Ar F; go_simp; (repeat apply Aq); refine At (by go_simp) ?_; apply Ar F; go_simp; refine ⟨_, c1, ?_⟩; go_simp; repeat (refine And.intro (by omega) ?_; go_simp)
 apply Ar F; go_simp; repeat (refine And.intro (by omega) ?_; go_simp)
 apply Ar F; go_simp; (repeat apply Aq); refine At (by go_simp) ?_; apply Ar F; go_simp; refine ⟨_, c2, ?_⟩; go_simp; repeat (refine And.intro (by omega) ?_; go_simp)
 apply Ar F; go_simp; repeat (refine And.intro (by omega) ?_; go_simp)
 apply Au; go_simp
theorem Wk (gk : GK G) (t1 : ByteArray) (m1 q1 : Int) (b1 : List ByteArray) (x0 : NJ) (c0 : TxR G x0) (h0 : (spJ x0).size ≤ 10000000) : ACalls Tryz.prog G 17 none [.agg (Ag (.mk 14 t1 m1 q1 [x0] b1))] (.ret (sI (Aa [⟨#[40, 45]⟩, spJ x0, ⟨#[41]⟩])) []) := by
 unfold TxR at c0; generalize spJ x0 = u at *; obtain ⟨k2, t2, m2, q2, l2, b2⟩ := x0; refine ACalls.enter Tryz.func17 rfl rfl gk Tryz.ntmps17 fun X F => ?_
 (iterate 3 apply Ar F;go_simp);(repeat apply Aq);apply Ab;(iterate 9 apply Ar F;go_simp;(repeat apply Aq);refine Af (by go_simp) ?_);apply Ar F;go_simp;(repeat apply Aq);refine At (by go_simp) ?_;apply Ar F;go_simp;refine ⟨_, c0, ?_⟩;go_simp;repeat (refine And.intro (by omega) ?_; go_simp)
 apply Au; go_simp
theorem WM (gk : GK G) (t1 : ByteArray) (m1 q1 : Int) (l1 : List NJ) (b1 : List ByteArray) (ht : ∀ x ∈ l1, TxR G x) (hs : ∀ x ∈ l1, (spJ x).size ≤ 10000000) (hw : (AP ⟨#[]⟩ (l1.map spJ)).size ≤ 10000000) : ACalls Tryz.prog G 17 none [.agg (Ag (.mk 15 t1 m1 q1 l1 b1))] (.ret (sI (Aa [⟨#[91]⟩, AP ⟨#[]⟩ (l1.map spJ), ⟨#[93]⟩])) []) := by
 by_cases hlen : l1.length ≤ 140737488351232
 case neg => exact ⟨⟨_, Tryz.func17, rfl, rfl⟩, fun W S p us hG hSb hrc hrep => absurd (by have := Bh (i := 4) hrep rfl; rwa [AF] at this) hlen⟩
 have cw := Kw gk l1 ⟨#[]⟩ ht hs (by decide) hw; generalize AP ⟨#[]⟩ (l1.map spJ) = w at *; refine ACalls.enter Tryz.func17 rfl rfl gk Tryz.ntmps17 fun X F => ?_
 (iterate 3 apply Ar F;go_simp);(repeat apply Aq);apply Ab;(iterate 10 apply Ar F;go_simp;(repeat apply Aq);refine Af (by go_simp) ?_);apply Ar F;go_simp;(repeat apply Aq);refine At (by go_simp) ?_;apply Ar F;go_simp;refine ⟨_, cw, ?_⟩;go_simp;repeat (refine And.intro (by omega) ?_; go_simp)
 apply Au; go_simp
theorem WY (gk : GK G) (t1 : ByteArray) (m1 q1 : Int) (b1 : List ByteArray) (x0 x1 x2 : NJ) (c0 : TxR G x0) (h0 : (spJ x0).size ≤ 10000000) (c1 : TxR G x1) (h1 : (spJ x1).size ≤ 10000000) (c2 : TxR G x2) (h2 : (spJ x2).size ≤ 10000000) : ACalls Tryz.prog G 17 none [.agg (Ag (.mk 17 t1 m1 q1 [x0, x1, x2] b1))] (.ret (sI (Aa [⟨#[105, 102, 32]⟩, spJ x0, ⟨#[32, 116, 104, 101, 110, 32]⟩, spJ x1, ⟨#[32, 101, 108, 115, 101, 32]⟩, spJ x2, ⟨#[32, 101, 110, 100]⟩])) []) := by
 unfold TxR at c0; generalize spJ x0 = u at *; obtain ⟨k2, t2, m2, q2, l2, b2⟩ := x0; unfold TxR at c1; generalize spJ x1 = v at *; obtain ⟨k3, t3, m3, q3, l3, b3⟩ := x1; unfold TxR at c2; generalize spJ x2 = g at *; obtain ⟨k4, t4, m4, q4, l4, b4⟩ := x2; refine ACalls.enter Tryz.func17 rfl rfl gk Tryz.ntmps17 fun X F => ?_
 (iterate 3 apply Ar F;go_simp);(repeat apply Aq);apply Ab;(iterate 12 apply Ar F;go_simp;(repeat apply Aq);refine Af (by go_simp) ?_);apply Ar F;go_simp;(repeat apply Aq);refine At (by go_simp) ?_;(repeat apply Aq);refine Ad F [0, 1, 2, 3, 7, 8, 9, 10, 14, 15, 16, 17, 4, 5, 6, 11, 12, 13, 18, 19, 20, 21] [(8, 4), (9, 4), (10, 4), (15, 4), (15, 11), (16, 4), (16, 11), (17, 4), (17, 11)] mixed (by kernel_rfl) ?_;go_simp;refine ⟨_, c0, ?_⟩;go_simp;repeat (refine And.intro (by omega) ?_; go_simp)
 refine ⟨_, c1, ?_⟩; go_simp; repeat (refine And.intro (by omega) ?_; go_simp)
 refine ⟨_, c2, ?_⟩; go_simp; repeat (refine And.intro (by omega) ?_; go_simp)
 apply Au; go_simp; repeat (refine And.intro (by omega) ?_; go_simp)
theorem VH (gk : GK G) (t1 : ByteArray) (m1 q1 : Int) (b1 : List ByteArray) (x0 : NJ) (c0 : TxR G x0) (h0 : (spJ x0).size ≤ 10000000) : ACalls Tryz.prog G 17 none [.agg (Ag (.mk 18 t1 m1 q1 [x0] b1))] (.ret (sI (Aa [⟨#[40, 116, 114, 121, 32]⟩, tgB (Av x0) (spJ x0), ⟨#[41]⟩])) []) := by
 have d0 := C4 gk x0 c0 (by omega); have hT0 : (tgB (Av x0) (spJ x0)).size ≤ 20000000 := by unfold tgB; split <;> first | omega | (rw [Bc]; omega)
 generalize tgB (Av x0) (spJ x0) = T0 at *; unfold TxR at c0; generalize spJ x0 = u at *; obtain ⟨k2, t2, m2, q2, l2, b2⟩ := x0; refine ACalls.enter Tryz.func17 rfl rfl gk Tryz.ntmps17 fun X F => ?_
 (iterate 3 apply Ar F;go_simp);(repeat apply Aq);apply Ab;(iterate 13 apply Ar F;go_simp;(repeat apply Aq);refine Af (by go_simp) ?_);(iterate 2 apply Ar F;go_simp;(repeat apply Aq);refine At (by go_simp) ?_);apply Ar F;go_simp;refine ⟨_, d0, ?_⟩;go_simp;repeat (refine And.intro (by omega) ?_; go_simp)
 apply Au; go_simp
theorem Vv (gk : GK G) (t1 : ByteArray) (m1 q1 : Int) (b1 : List ByteArray) (x0 x1 : NJ) (c0 : TxR G x0) (h0 : (spJ x0).size ≤ 10000000) (c1 : TxR G x1) (h1 : (spJ x1).size ≤ 10000000) : ACalls Tryz.prog G 17 none [.agg (Ag (.mk 18 t1 m1 q1 [x0, x1] b1))] (.ret (sI (Aa [⟨#[40, 116, 114, 121, 32]⟩, tgB (Av x0) (spJ x0), ⟨#[32, 99, 97, 116, 99, 104, 32]⟩, tgB (Av x1) (spJ x1), ⟨#[41]⟩])) []) := by
 have d0 := C4 gk x0 c0 (by omega); have hT0 : (tgB (Av x0) (spJ x0)).size ≤ 20000000 := by unfold tgB; split <;> first | omega | (rw [Bc]; omega)
 generalize tgB (Av x0) (spJ x0) = T0 at *; have d1 := C4 gk x1 c1 (by omega); have hT1 : (tgB (Av x1) (spJ x1)).size ≤ 20000000 := by unfold tgB; split <;> first | omega | (rw [Bc]; omega)
 generalize tgB (Av x1) (spJ x1) = T1 at *; unfold TxR at c0; generalize spJ x0 = u at *; obtain ⟨k2, t2, m2, q2, l2, b2⟩ := x0; unfold TxR at c1; generalize spJ x1 = v at *; obtain ⟨k3, t3, m3, q3, l3, b3⟩ := x1; refine ACalls.enter Tryz.func17 rfl rfl gk Tryz.ntmps17 fun X F => ?_
 (iterate 3 apply Ar F;go_simp);(repeat apply Aq);apply Ab;(iterate 13 apply Ar F;go_simp;(repeat apply Aq);refine Af (by go_simp) ?_);apply Ar F;go_simp;(repeat apply Aq);refine At (by go_simp) ?_;apply Ar F;go_simp;(repeat apply Aq);refine Af (by go_simp) ?_;apply As;go_simp;(repeat apply Aq);refine Ad F [0, 1, 2, 3, 7, 8, 9, 10, 4, 5, 6, 11, 12, 13, 14] [(8, 4), (9, 4), (10, 4)] mixed (by kernel_rfl) ?_;go_simp;refine ⟨_, d0, ?_⟩;go_simp;repeat (refine And.intro (by omega) ?_; go_simp)
 refine ⟨_, d1, ?_⟩; go_simp; repeat (refine And.intro (by omega) ?_; go_simp)
 apply Au; go_simp; repeat (refine And.intro (by omega) ?_; go_simp)
theorem Wr (gk : GK G) (t1 : ByteArray) (m1 q1 : Int) (b1 : List ByteArray) (ht1 : t1.size ≤ 10000000) (x0 x1 x2 : NJ) (hw : (AP ⟨#[59, 32]⟩ ([x1, x2].map spJ)).size ≤ 10000000) (c0 : TxR G x0) (h0 : (spJ x0).size ≤ 10000000) (c1 : TxR G x1) (h1 : (spJ x1).size ≤ 10000000) (c2 : TxR G x2) (h2 : (spJ x2).size ≤ 10000000) : ACalls Tryz.prog G 17 none [.agg (Ag (.mk 19 t1 m1 q1 [x0, x1, x2] b1))] (.ret (sI (Aa [⟨#[114, 101, 100, 117, 99, 101, 32]⟩, tgB (Av x0) (spJ x0), ⟨#[32, 97, 115, 32, 36]⟩, t1, ⟨#[32, 40]⟩, AP ⟨#[59, 32]⟩ ([x1, x2].map spJ), ⟨#[41]⟩])) []) := by
 have cw := Kw gk [x1, x2] ⟨#[59, 32]⟩ (by simp only [List.mem_cons, List.not_mem_nil, or_false]; rintro x (rfl | rfl) <;> assumption) (by simp only [List.mem_cons, List.not_mem_nil, or_false]; rintro x (rfl | rfl) <;> assumption) (by decide) (by omega); generalize AP ⟨#[59, 32]⟩ ([x1, x2].map spJ) = w at *; have d0 := C4 gk x0 c0 (by omega); have hT0 : (tgB (Av x0) (spJ x0)).size ≤ 20000000 := by unfold tgB; split <;> first | omega | (rw [Bc]; omega)
 generalize tgB (Av x0) (spJ x0) = T0 at *; unfold TxR at c0; generalize spJ x0 = u at *; obtain ⟨k2, t2, m2, q2, l2, b2⟩ := x0; unfold TxR at c1; generalize spJ x1 = v at *; obtain ⟨k3, t3, m3, q3, l3, b3⟩ := x1; unfold TxR at c2; generalize spJ x2 = g at *; obtain ⟨k4, t4, m4, q4, l4, b4⟩ := x2; simp only [AJ, Ag] at cw; refine ACalls.enter Tryz.func17 rfl rfl gk Tryz.ntmps17 fun X F => ?_
 (iterate 3 apply Ar F;go_simp);(repeat apply Aq);apply Ab;(iterate 14 apply Ar F;go_simp;(repeat apply Aq);refine Af (by go_simp) ?_);apply Ar F;go_simp;(repeat apply Aq);refine At (by go_simp) ?_;(repeat apply Aq);refine Ad F [0, 1, 2, 3, 7, 8, 11, 12, 13, 4, 5, 6, 9, 10, 14, 15, 16, 17] [(8, 4), (8, 14), (12, 4)] mixed (by kernel_rfl) ?_;go_simp;refine ⟨_, d0, ?_⟩;go_simp;repeat (refine And.intro (by omega) ?_; go_simp)
 refine ⟨_, cw, ?_⟩; go_simp; repeat (refine And.intro (by omega) ?_; go_simp)
 apply Au; go_simp; repeat (refine And.intro (by omega) ?_; go_simp)
theorem WQ (gk : GK G) (t1 : ByteArray) (m1 q1 : Int) (b1 : List ByteArray) (ht1 : t1.size ≤ 10000000) (x0 x1 x2 x3 : NJ) (hw : (AP ⟨#[59, 32]⟩ ([x1, x2, x3].map spJ)).size ≤ 10000000) (c0 : TxR G x0) (h0 : (spJ x0).size ≤ 10000000) (c1 : TxR G x1) (h1 : (spJ x1).size ≤ 10000000) (c2 : TxR G x2) (h2 : (spJ x2).size ≤ 10000000) (c3 : TxR G x3) (h3 : (spJ x3).size ≤ 10000000) : ACalls Tryz.prog G 17 none [.agg (Ag (.mk 20 t1 m1 q1 [x0, x1, x2, x3] b1))] (.ret (sI (Aa [⟨#[102, 111, 114, 101, 97, 99, 104, 32]⟩, tgB (Av x0) (spJ x0), ⟨#[32, 97, 115, 32, 36]⟩, t1, ⟨#[32, 40]⟩, AP ⟨#[59, 32]⟩ ([x1, x2, x3].map spJ), ⟨#[41]⟩])) []) := by
 have cw := Kw gk [x1, x2, x3] ⟨#[59, 32]⟩ (by simp only [List.mem_cons, List.not_mem_nil, or_false]; rintro x (rfl | rfl | rfl) <;> assumption) (by simp only [List.mem_cons, List.not_mem_nil, or_false]; rintro x (rfl | rfl | rfl) <;> assumption) (by decide) (by omega); generalize AP ⟨#[59, 32]⟩ ([x1, x2, x3].map spJ) = w at *; have d0 := C4 gk x0 c0 (by omega); have hT0 : (tgB (Av x0) (spJ x0)).size ≤ 20000000 := by unfold tgB; split <;> first | omega | (rw [Bc]; omega)
 generalize tgB (Av x0) (spJ x0) = T0 at *; unfold TxR at c0; generalize spJ x0 = u at *; obtain ⟨k2, t2, m2, q2, l2, b2⟩ := x0; unfold TxR at c1; generalize spJ x1 = v at *; obtain ⟨k3, t3, m3, q3, l3, b3⟩ := x1; unfold TxR at c2; generalize spJ x2 = g at *; obtain ⟨k4, t4, m4, q4, l4, b4⟩ := x2; unfold TxR at c3; generalize spJ x3 = f at *; obtain ⟨k5, t5, m5, q5, l5, b5⟩ := x3; simp only [AJ, Ag] at cw; refine ACalls.enter Tryz.func17 rfl rfl gk Tryz.ntmps17 fun X F => ?_
 (iterate 3 apply Ar F;go_simp);(repeat apply Aq);apply Ab;(iterate 15 apply Ar F;go_simp;(repeat apply Aq);refine Af (by go_simp) ?_);apply Ar F;go_simp;(repeat apply Aq);refine At (by go_simp) ?_;(repeat apply Aq);refine Ad F [0, 1, 2, 3, 7, 8, 11, 12, 13, 4, 5, 6, 9, 10, 14, 15, 16, 17] [(8, 4), (8, 14), (12, 4)] mixed (by kernel_rfl) ?_;go_simp;refine ⟨_, d0, ?_⟩;go_simp;repeat (refine And.intro (by omega) ?_; go_simp)
 refine ⟨_, cw, ?_⟩; go_simp; repeat (refine And.intro (by omega) ?_; go_simp)
 apply Au; go_simp; repeat (refine And.intro (by omega) ?_; go_simp)
theorem WB (gk : GK G) (t1 : ByteArray) (m1 q1 : Int) (b1 : List ByteArray) (ht1 : t1.size ≤ 10000000) (x0 x1 : NJ) (c0 : TxR G x0) (h0 : (spJ x0).size ≤ 10000000) (c1 : TxR G x1) (h1 : (spJ x1).size ≤ 10000000) : ACalls Tryz.prog G 17 none [.agg (Ag (.mk 21 t1 m1 q1 [x0, x1] b1))] (.ret (sI (Aa [⟨#[40]⟩, tgB (Av x0) (spJ x0), ⟨#[32, 97, 115, 32, 36]⟩, t1, ⟨#[32, 124, 32]⟩, spJ x1, ⟨#[41]⟩])) []) := by
 have d0 := C4 gk x0 c0 (by omega); have hT0 : (tgB (Av x0) (spJ x0)).size ≤ 20000000 := by unfold tgB; split <;> first | omega | (rw [Bc]; omega)
 generalize tgB (Av x0) (spJ x0) = T0 at *; unfold TxR at c0; generalize spJ x0 = u at *; obtain ⟨k2, t2, m2, q2, l2, b2⟩ := x0; unfold TxR at c1; generalize spJ x1 = v at *; obtain ⟨k3, t3, m3, q3, l3, b3⟩ := x1; refine ACalls.enter Tryz.func17 rfl rfl gk Tryz.ntmps17 fun X F => ?_
 (iterate 3 apply Ar F;go_simp);(repeat apply Aq);apply Ab;(iterate 16 apply Ar F;go_simp;(repeat apply Aq);refine Af (by go_simp) ?_);apply Ar F;go_simp;(repeat apply Aq);refine At (by go_simp) ?_;(repeat apply Aq);refine Ad F [0, 1, 2, 3, 7, 8, 11, 12, 13, 14, 4, 5, 6, 9, 10, 15, 16, 17, 18] [(8, 4), (8, 15), (12, 4), (13, 4), (14, 4)] mixed (by kernel_rfl) ?_;go_simp;refine ⟨_, d0, ?_⟩;go_simp;repeat (refine And.intro (by omega) ?_; go_simp)
 refine ⟨_, c1, ?_⟩; go_simp; repeat (refine And.intro (by omega) ?_; go_simp)
 apply Au; go_simp; repeat (refine And.intro (by omega) ?_; go_simp)
theorem V6 (gk : GK G) (t1 : ByteArray) (m1 q1 : Int) (b1 : List ByteArray)  : ACalls Tryz.prog G 17 none [.agg (Ag (.mk 23 t1 m1 q1 [] b1))] (.ret (sI t1) []) := by
 refine ACalls.enter Tryz.func17 rfl rfl gk Tryz.ntmps17 fun X F => ?_
 (iterate 3 apply Ar F;go_simp);(repeat apply Aq);apply Ab;(iterate 17 apply Ar F;go_simp;(repeat apply Aq);refine Af (by go_simp) ?_);(iterate 2 apply Ar F;go_simp;(repeat apply Aq);refine At (by go_simp) ?_);apply Ar F;go_simp;apply Au;go_simp
theorem VF (gk : GK G) (t1 : ByteArray) (m1 q1 : Int) (b1 : List ByteArray) (l1 : List NJ) (hl : 0 < l1.length) (ht1 : t1.size ≤ 10000000) (ht : ∀ x ∈ l1, TxR G x) (hs : ∀ x ∈ l1, (spJ x).size ≤ 10000000) (hw : (AP ⟨#[59, 32]⟩ (l1.map spJ)).size ≤ 10000000) : ACalls Tryz.prog G 17 none [.agg (Ag (.mk 23 t1 m1 q1 l1 b1))] (.ret (sI (Aa [t1, ⟨#[40]⟩, AP ⟨#[59, 32]⟩ (l1.map spJ), ⟨#[41]⟩])) []) := by
 by_cases hlen : l1.length ≤ 140737488351232
 case neg => exact ⟨⟨_, Tryz.func17, rfl, rfl⟩, fun W S p us hG hSb hrc hrep => absurd (by have := Bh (i := 4) hrep rfl; rwa [AF] at this) hlen⟩
 have cw := Kw gk l1 ⟨#[59, 32]⟩ ht hs (by decide) hw; generalize AP ⟨#[59, 32]⟩ (l1.map spJ) = w at *; have hlI : ¬ (l1.length : Int) = 0 := by omega
 have hlN : ¬ l1 = [] := fun h => by rw [h] at hl; exact absurd hl (by decide)
 refine ACalls.enter Tryz.func17 rfl rfl gk Tryz.ntmps17 fun X F => ?_
 (iterate 3 apply Ar F;go_simp);(repeat apply Aq);apply Ab;(iterate 17 apply Ar F;go_simp;(repeat apply Aq);refine Af (by go_simp) ?_);apply Ar F;go_simp;(repeat apply Aq);refine At (by go_simp) ?_;apply Ar F;go_simp;(repeat apply Aq);refine Af (by go_simp) ?_;apply As;go_simp;(repeat apply Aq);refine Ad F [0, 1, 2, 3, 4, 5, 6, 7, 8] [(1, 5)] mixed (by kernel_rfl) ?_;go_simp;repeat (refine And.intro (by omega) ?_; go_simp)
 refine ⟨_, cw, ?_⟩; go_simp; repeat (refine And.intro (by omega) ?_; go_simp)
 apply Au; go_simp; repeat (refine And.intro (by omega) ?_; go_simp)
theorem Jg (gk : GK G) (t1 : ByteArray) (m1 q1 : Int) (b1 : List ByteArray) (k1 : Int) (ht1 : t1.size ≤ 10000000) (x0 x1 : NJ) (c0 : TxR G x0) (h0 : (spJ x0).size ≤ 10000000) (c1 : TxR G x1) (h1 : (spJ x1).size ≤ 10000000) (hk : ¬ k1 = 1 ∧ ¬ k1 = 26 ∧ ¬ k1 = 22 ∧ ¬ k1 = 2 ∧ ¬ k1 = 3 ∧ ¬ k1 = 4 ∧ ¬ k1 = 5 ∧ ¬ k1 = 7 ∧ ¬ k1 = 6 ∧ ¬ k1 = 14 ∧ ¬ k1 = 15 ∧ ¬ k1 = 16 ∧ ¬ k1 = 17 ∧ ¬ k1 = 18 ∧ ¬ k1 = 19 ∧ ¬ k1 = 20 ∧ ¬ k1 = 21 ∧ ¬ k1 = 23 ∧ ¬ k1 = 24)  : ACalls Tryz.prog G 17 none [.agg (Ag (.mk k1 t1 m1 q1 [x0, x1] b1))] (.ret (sI (Aa [⟨#[40]⟩, spJ x0, ⟨#[32]⟩, AG k1 t1, ⟨#[32]⟩, spJ x1, ⟨#[41]⟩])) []) := by
 obtain ⟨g1, g26, g22, g2, g3, g4, g5, g7, g6, g14, g15, g16, g17, g18, g19, g20, g21, g23, g24⟩ := hk; have cs := VG gk k1 t1 m1 q1 [x0, x1] b1; have hsg := Lx k1 t1; generalize AG k1 t1 = sg at *; unfold TxR at c0; generalize spJ x0 = u at *; obtain ⟨k2, t2, m2, q2, l2, b2⟩ := x0; unfold TxR at c1; generalize spJ x1 = v at *; obtain ⟨k3, t3, m3, q3, l3, b3⟩ := x1; simp only [Ag, AJ] at cs; refine ACalls.enter Tryz.func17 rfl rfl gk Tryz.ntmps17 fun X F => ?_
 (iterate 3 apply Ar F;go_simp);(repeat apply Aq);apply Ab;(iterate 19 apply Ar F;go_simp;(repeat apply Aq);refine Af (by go_simp) ?_);apply As;go_simp;(repeat apply Aq);refine Ad F [0, 1, 2, 3, 7, 11, 12, 13, 14, 4, 5, 6, 8, 9, 10, 15, 16, 17, 18] [(7, 4), (12, 4), (12, 8), (13, 4), (13, 8), (14, 4), (14, 8)] mixed (by kernel_rfl) ?_
 go_simp; refine ⟨_, c0, ?_⟩; go_simp; repeat (refine And.intro (by omega) ?_; go_simp)
 refine ⟨_, cs, ?_⟩; go_simp; repeat (refine And.intro (by omega) ?_; go_simp)
 refine ⟨_, c1, ?_⟩; go_simp; repeat (refine And.intro (by omega) ?_; go_simp)
 apply Au; go_simp; repeat (refine And.intro (by omega) ?_; go_simp)
end Go.Proofs.YtakncilicoefdaaGreatDoor
