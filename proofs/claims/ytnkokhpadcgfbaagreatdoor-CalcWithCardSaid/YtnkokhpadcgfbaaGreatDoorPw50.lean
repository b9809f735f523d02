/- Lemmas and contracts for the laws CalcWith, part 50 of 50: LawWith. Conditions: those that each lemma names. -/
import Derived.Test.YtnkokhpadcgfbaaGreatDoorPw49
import Derived.Test.YtnkokhpadcgfbaaGreatDoorPw47
import Derived.Test.YtnkokhpadcgfbaaGreatDoorPw7
namespace Go.Proofs.YtnkokhpadcgfbaaGreatDoor
open Go Go.RowKit Go.Proofs Th
attribute [local go_sem] Above.cell
structure CopyI (W5 : World) (a b : JV) (x y : Value) (L : Nat → Bool) (H : Nat → Value) (w : World) (S1 S3 : Nat → Prop) (g4 g5 : Nat) : Prop where
  bw : Below W5.heap.size W5 w
  in1 : ∀ g, S1 g → W5.heap.size ≤ g ∧ g < w.heap.size
  in3 : ∀ g, S3 g → W5.heap.size ≤ g ∧ g < w.heap.size
  h0 : L 0 = true → H 0 = x
  h2 : L 2 = true → H 2 = y
  h1 : L 1 = true → ∃ cs, H 1 = .agg (List.toArray cs) ∧ JIn w S1 a cs
  h3 : L 3 = true → ∃ cs, H 3 = .agg (List.toArray cs) ∧ JIn w S3 b cs
  h4 : L 4 = true → H 4 = .pointer (some ⟨g4, 0, none⟩) ∧ VBlkT w g4 zero6 ∧ W5.heap.size ≤ g4
  h5 : L 5 = true → H 5 = .pointer (some ⟨g5, 0, none⟩) ∧ VBlkT w g5 zero6 ∧ W5.heap.size ≤ g5
  e1 : L 1 = false → ∀ g, ¬ S1 g
  e3 : L 3 = false → ∀ g, ¬ S3 g
  d4 : L 4 = true → ¬ S1 g4 ∧ ¬ S3 g4
  d5 : L 5 = true → ¬ S1 g5 ∧ ¬ S3 g5
  d : L 4 = true → L 5 = true → g4 ≠ g5
theorem CopyI.grow {W5 : World} {a b : JV} {x y : Value} {L : Nat → Bool} {H : Nat → Value} {w w' : World} {S1 S3 : Nat → Prop} {g4 g5 : Nat} (h : CopyI W5 a b x y L H w S1 S3 g4 g5) (hb : Below w.heap.size w w') : CopyI W5 a b x y L H w' S1 S3 g4 g5 :=
  ⟨up h.bw hb, fun g hg => ⟨(h.in1 g hg).1, Nat.lt_of_lt_of_le (h.in1 g hg).2 hb.size⟩, fun g hg => ⟨(h.in3 g hg).1, Nat.lt_of_lt_of_le (h.in3 g hg).2 hb.size⟩, h.h0, h.h2,
   fun hl => (h.h1 hl).imp fun _ h1 => ⟨h1.1, h1.2.keep (fun g hg => hb.block g (h.in1 g hg).2) (fun _ hg => hg)⟩,
   fun hl => (h.h3 hl).imp fun _ h1 => ⟨h1.1, h1.2.keep (fun g hg => hb.block g (h.in3 g hg).2) (fun _ hg => hg)⟩,
   fun hl => ⟨(h.h4 hl).1, (hb.block g4 (lt_of_block (h.h4 hl).2.1)).trans (h.h4 hl).2.1, (h.h4 hl).2.2⟩,
   fun hl => ⟨(h.h5 hl).1, (hb.block g5 (lt_of_block (h.h5 hl).2.1)).trans (h.h5 hl).2.1, (h.h5 hl).2.2⟩, h.e1, h.e3, h.d4, h.d5, h.d⟩
theorem boxS6 {w : World} {g : Nat} {a0 a1 a2 a3 a4 a5 : Value} (h : Box w g [a0, a1, a2, a3, a4, a5]) (b0 b1 b2 b3 b4 b5 : Value) : Box (six w g b0 b1 b2 b3 b4 b5) g [b0, b1, b2, b3, b4, b5] :=
  (((((h.set (i := 0) (by simp) b0).set (i := 1) (by simp) b1).set (i := 2) (by simp) b2).set (i := 3) (by simp) b3).set (i := 4) (by simp) b4).set (i := 5) (by simp) b5
theorem boxS6_other {w : World} {g p : Nat} {cs : List Value} (h : Box w g cs) (hp : p ≠ g) (b0 b1 b2 b3 b4 b5 : Value) : Box (six w p b0 b1 b2 b3 b4 b5) g cs :=
  (((((h.other hp b0).other hp b1).other hp b2).other hp b3).other hp b4).other hp b5
structure VB (W : World) (g : Nat) (t : JV) (cs : List Value) : Prop where
  x : Box W g cs
  j : JAt W W.heap.size t cs
theorem VB.up {W W' : World} {g : Nat} {t : JV} {cs : List Value} (h : VB W g t cs) (hb : Below W.heap.size W W') : VB W' g t cs := ⟨h.x.below hb h.x.lt, h.j.up hb⟩
set_option maxRecDepth 100000 in
@[local go_sem] theorem idx3_0 (nm : ByteArray) (w : World) : (Instr.index 46 (.agg #[.string ⟨#[104, 97, 115]⟩, .string ⟨#[106, 111, 105, 110]⟩, .string nm]) (.int .i64 0)).run Tryz.prog w = .ok (.string ⟨#[104, 97, 115]⟩) w := by
  have hu := Tryz.underlying46
  have hz := Tryz.sizeOf9
  have h9 := Tryz.underlying9
  have ha := Tryz.isAgg9
  simp [Instr.index, run_underlying hu, asIntOf, part, go_sem, hz]
set_option maxRecDepth 100000 in
@[local go_sem] theorem idx3_1 (nm : ByteArray) (w : World) : (Instr.index 46 (.agg #[.string ⟨#[104, 97, 115]⟩, .string ⟨#[106, 111, 105, 110]⟩, .string nm]) (.int .i64 1)).run Tryz.prog w = .ok (.string ⟨#[106, 111, 105, 110]⟩) w := by
  have hu := Tryz.underlying46
  have hz := Tryz.sizeOf9
  have h9 := Tryz.underlying9
  have ha := Tryz.isAgg9
  simp [Instr.index, run_underlying hu, asIntOf, part, go_sem, hz]
set_option maxRecDepth 100000 in
@[local go_sem] theorem idx3_2 (nm : ByteArray) (w : World) : (Instr.index 46 (.agg #[.string ⟨#[104, 97, 115]⟩, .string ⟨#[106, 111, 105, 110]⟩, .string nm]) (.int .i64 2)).run Tryz.prog w = .ok (.string nm) w := by
  have hu := Tryz.underlying46
  have hz := Tryz.sizeOf9
  have h9 := Tryz.underlying9
  have ha := Tryz.isAgg9
  simp [Instr.index, run_underlying hu, asIntOf, part, go_sem, hz]
set_option maxRecDepth 100000 in
set_option maxHeartbeats 8000000 in
theorem law_with (nm : ByteArray) (a b : JV) (w : World) (cs cs2 : List Value) (hnm : nm.size ≤ 140737488351232) (hG : GlobW w) (hM : GlobM w) (hJ : JAt w w.heap.size a cs) (hJ2 : JAt w w.heap.size b cs2) :
    Calls Tryz.prog 5 #[.string nm, .agg cs.toArray, .agg cs2.toArray] w fun r w' => r = .returned (.bool true) ∧ Below w.heap.size w w' := by
  obtain ⟨k3, m3, e3, s3, A3, n3, c3, B3, p3, d3, rfl⟩ := hJ.inn.cells
  obtain ⟨k4, m4, e4, s4, A4, n4, c4, B4, p4, d4, rfl⟩ := hJ2.inn.cells
  have HG := Keep.mk (fun W (hb : Below w.heap.size w W) => hG.below hb)
  have HWK := Keep.mk (fun W (hb : Below w.heap.size w W) => law12_works W (hG.below hb) (hM.below hb))
  have J3 := Keep.mk hJ
  have J4 := Keep.mk hJ2
  have HT := Keep.mk (TwoB.new w k3 m3 e3 s3 A3 n3 c3 B3 p3 d3 k4 m4 e4 s4 A4 n4 c4 B4 p4 d4 27 27)
  clear hG hM hJ hJ2
  show Calls _ _ #[.string nm, .agg #[.int .i64 k3, .int .i64 m3, .int .i64 e3, .string s3, .slice A3 n3 c3, .slice B3 p3 d3], .agg #[.int .i64 k4, .int .i64 m4, .int .i64 e4, .string s4, .slice A4 n4 c4, .slice B4 p4 d4]] w _
  go_enter Tryz.func5, Tryz.ntmps5
  go_upto_region 1 with fail
  refine wp_world (fun W => TwoB w W (cells6 k3 m3 e3 s3 A3 n3 c3 B3 p3 d3) (cells6 k4 m4 e4 s4 A4 n4 c4 B4 p4 d4)) HT.out ?_
  clear HT
  rintro V0 HT
  have HB := Keep.mk HT.b
  have H3 := Keep.mk (VB.mk HT.x (J3.out.up HT.b))
  have H4 := Keep.mk (VB.mk HT.y (J4.out.up HT.b))
  clear HT J3 J4
  have x3_0 := H3.out.x.cell 0 _ rfl
  have x3_1 := H3.out.x.cell 1 _ rfl
  have x3_2 := H3.out.x.cell 2 _ rfl
  have x3_3 := H3.out.x.cell 3 _ rfl
  have x3_4 := H3.out.x.cell 4 _ rfl
  have x3_5 := H3.out.x.cell 5 _ rfl
  have xl3 := H3.out.x.lt
  have x4_0 := H4.out.x.cell 0 _ rfl
  have x4_1 := H4.out.x.cell 1 _ rfl
  have x4_2 := H4.out.x.cell 2 _ rfl
  have x4_3 := H4.out.x.cell 3 _ rfl
  have x4_4 := H4.out.x.cell 4 _ rfl
  have x4_5 := H4.out.x.cell 5 _ rfl
  have xl4 := H4.out.x.lt
  have HV := Keep.mk (two_vals V0 a b k3 m3 e3 s3 A3 n3 c3 B3 p3 d3 k4 m4 e4 s4 A4 n4 c4 B4 p4 d4 H3.out.j H4.out.j 27)
  go_wp2_with fail
  refine (law12_great [a, b] _ 2 _ HV.out).mono ?_
  rintro r V2 ⟨g, rfl, hg, hb⟩
  have hq := up (al1 V0 (.cells #[.int .i64 k3, .int .i64 m3, .int .i64 e3, .string s3, .slice A3 n3 c3, .slice B3 p3 d3, .int .i64 k4, .int .i64 m4, .int .i64 e4, .string s4, .slice A4 n4 c4, .slice B4 p4 d4] 27)) hb
  replace H3 := Keep.mk (H3.out.up hq)
  replace H4 := Keep.mk (H4.out.up hq)
  replace HB := Keep.mk (up HB.out hq)
  replace hg := Keep.mk hg
  clear hq hb HV x3_0 x3_1 x3_2 x3_3 x3_4 x3_5 xl3 x4_0 x4_1 x4_2 x4_3 x4_4 x4_5 xl4
  by_cases hgg : g = true ∨ 1000 < nm.size
  · have HWW := Keep.mk (HWK.out V2 HB.out)
    cases g
    case true =>
      clear hgg
      go_wp2_with fail
      refine HWW.out.mono ?_
      rintro r W ⟨rfl, hq⟩
      replace HB := Keep.mk (up HB.out hq)
      go_wp2
      go_ret
      exact ⟨rfl, HB.out⟩
    case false =>
      have hn2 : 1000 < nm.size := by simpa using hgg
      clear hgg
      go_wp2_with fail
      refine HWW.out.mono ?_
      rintro r W ⟨rfl, hq⟩
      replace HB := Keep.mk (up HB.out hq)
      go_wp2
      go_ret
      exact ⟨rfl, HB.out⟩
  obtain ⟨rfl, hn2⟩ : g = false ∧ nm.size ≤ 1000 := ⟨by cases g; rfl; exact absurd (Or.inl rfl) hgg, by omega⟩
  have HZ := Keep.mk (show sizeJ a + sizeJ b ≤ 1000 by
    have := hg.out rfl
    have h : 1 + (sizeJ a + (sizeJ b + 0)) ≤ 1000 := this
    omega)
  clear hg hgg
  have QC := Keep.mk (fun (nm : ByteArray) (W : World) (c2 c3 : List Value) (hb : Below w.heap.size w W) (hj : JAt W W.heap.size a c2) (hj2 : JAt W W.heap.size b c3) => calc_with nm a b W c2 c3 (HG.out W hb) hj hj2 HZ.out)
  have QR := Keep.mk (fun (nm : ByteArray) (W : World) (c2 c3 : List Value) (hj : JAt W W.heap.size a c2) (hj2 : JAt W W.heap.size b c3) => ref_with nm a b W c2 c3 hj hj2 HZ.out)
  have CX := Keep.mk (fun W (hW : Below V2.heap.size V2 W) => ref3_Copy _ a (Nat.le_refl _) (by have := HZ.out; omega) W _ (H3.out.j.up hW))
  have CY := Keep.mk (fun W (hW : Below V2.heap.size V2 W) => ref3_Copy _ b (Nat.le_refl _) (by have := HZ.out; omega) W _ (H4.out.j.up hW))
  have BX := Keep.mk H3.out.x
  have BY := Keep.mk H4.out.x
  clear HZ HG
  go_wp2_with fail
  refine wp_region_relyV 6 (fun L H w' => ∃ (S1 S3 : Nat → Prop) (g4 g5 : Nat), CopyI V2 a b (.agg #[.int .i64 k3, .int .i64 m3, .int .i64 e3, .string s3, .slice A3 n3 c3, .slice B3 p3 d3]) (.agg #[.int .i64 k4, .int .i64 m4, .int .i64 e4, .string s4, .slice A4 n4 c4, .slice B4 p4 d4]) L H w' S1 S3 g4 g5) (by kernel_rfl) (by kernel_rfl)
    (fun H => ⟨fun _ => False, fun _ => False, 0, 0, below_drawn V2, fun _ h => h.elim, fun _ h => h.elim, fun h => Bool.noConfusion h, fun h => Bool.noConfusion h, fun h => Bool.noConfusion h, fun h => Bool.noConfusion h, fun h => Bool.noConfusion h, fun h => Bool.noConfusion h, fun _ _ h => h, fun _ _ h => h, fun h => Bool.noConfusion h, fun h => Bool.noConfusion h, fun h => Bool.noConfusion h⟩) ?_ ?_
  · simp only [List.take, stepV]
    refine ⟨?_, ?_, ?_, ?_, ?_, ?_, trivial⟩
    · rintro L H a0 wa hL ⟨S1, S3, g4, g5, h⟩ hs _
      have q1 : a0.eval (.tmp 4) = .pointer (some ⟨w.heap.size, 0, none⟩) := hs 4 (by kernel_rfl)
      have HX1 := BX.out.below h.bw BX.out.lt
      have x0 := HX1.cell 0 _ rfl
      have x1 := HX1.cell 1 _ rfl
      have x2 := HX1.cell 2 _ rfl
      have x3 := HX1.cell 3 _ rfl
      have x4 := HX1.cell 4 _ rfl
      have x5 := HX1.cell 5 _ rfl
      have xl := HX1.lt
      exact op_val _ (w' := wa) (by unfold execOp; simp only [q1]; go_simp) ⟨_, rfl, S1, S3, g4, g5, h.bw, h.in1, h.in3, fun _ => rfl, h.h2, h.h1, h.h3, h.h4, h.h5, h.e1, h.e3, h.d4, h.d5, h.d⟩
    · rintro L H a0 wa hL ⟨S1, S3, g4, g5, h⟩ _ hd
      have q1 : a0.eval (.tmp 25) = .agg #[.int .i64 k3, .int .i64 m3, .int .i64 e3, .string s3, .slice A3 n3 c3, .slice B3 p3 d3] := hd.1.2.trans (h.h0 hd.1.1)
      have f1 := get_form q1
      refine op_call 9 #[.agg #[.int .i64 k3, .int .i64 m3, .int .i64 e3, .string s3, .slice A3 n3 c3, .slice B3 p3 d3]] (by unfold execOp; go_simp) ((CX.out wa h.bw).mono ?_)
      rintro r w9 ⟨cs', rfl, hj, hb⟩
      have h2 := h.grow hb
      exact ⟨_, rfl, _, rfl, newIn wa w9, S3, g4, g5, h2.bw, fun g hg => ⟨Nat.le_trans h.bw.size hg.1, hg.2⟩, h2.in3, h2.h0, h2.h2, fun _ => ⟨cs', rfl, hj⟩, h2.h3, h2.h4, h2.h5, fun e => Bool.noConfusion e, h2.e3,
        fun e => ⟨fun hn => absurd (lt_of_block (h.h4 e).2.1) (Nat.not_lt.2 hn.1), (h2.d4 e).2⟩, fun e => ⟨fun hn => absurd (lt_of_block (h.h5 e).2.1) (Nat.not_lt.2 hn.1), (h2.d5 e).2⟩, h2.d⟩
    · rintro L H a0 wa hL ⟨S1, S3, g4, g5, h⟩ hs _
      have q1 : a0.eval (.tmp 5) = .pointer (some ⟨w.heap.size + 1, 0, none⟩) := hs 5 (by kernel_rfl)
      have HX1 := BY.out.below h.bw BY.out.lt
      have x0 := HX1.cell 0 _ rfl
      have x1 := HX1.cell 1 _ rfl
      have x2 := HX1.cell 2 _ rfl
      have x3 := HX1.cell 3 _ rfl
      have x4 := HX1.cell 4 _ rfl
      have x5 := HX1.cell 5 _ rfl
      have xl := HX1.lt
      exact op_val _ (w' := wa) (by unfold execOp; simp only [q1]; go_simp) ⟨_, rfl, S1, S3, g4, g5, h.bw, h.in1, h.in3, h.h0, fun _ => rfl, h.h1, h.h3, h.h4, h.h5, h.e1, h.e3, h.d4, h.d5, h.d⟩
    · rintro L H a0 wa hL ⟨S1, S3, g4, g5, h⟩ _ hd
      have q1 : a0.eval (.tmp 27) = .agg #[.int .i64 k4, .int .i64 m4, .int .i64 e4, .string s4, .slice A4 n4 c4, .slice B4 p4 d4] := hd.1.2.trans (h.h2 hd.1.1)
      have f1 := get_form q1
      refine op_call 9 #[.agg #[.int .i64 k4, .int .i64 m4, .int .i64 e4, .string s4, .slice A4 n4 c4, .slice B4 p4 d4]] (by unfold execOp; go_simp) ((CY.out wa h.bw).mono ?_)
      rintro r w9 ⟨cs', rfl, hj, hb⟩
      have h2 := h.grow hb
      exact ⟨_, rfl, _, rfl, S1, newIn wa w9, g4, g5, h2.bw, h2.in1, fun g hg => ⟨Nat.le_trans h.bw.size hg.1, hg.2⟩, h2.h0, h2.h2, h2.h1, fun _ => ⟨cs', rfl, hj⟩, h2.h4, h2.h5, h2.e1, fun e => Bool.noConfusion e,
        fun e => ⟨(h2.d4 e).1, fun hn => absurd (lt_of_block (h.h4 e).2.1) (Nat.not_lt.2 hn.1)⟩, fun e => ⟨(h2.d5 e).1, fun hn => absurd (lt_of_block (h.h5 e).2.1) (Nat.not_lt.2 hn.1)⟩, h2.d⟩
    · rintro L H a0 wa hL ⟨S1, S3, g4, g5, h⟩ _ _
      have h2 := h.grow (al1 wa (.cells zero6.toArray 27))
      exact op_val _ (w' := wa.alloc (.cells zero6.toArray 27)) (by unfold execOp; go_simp; rfl) ⟨_, rfl, S1, S3, wa.heap.size, g5, h2.bw, h2.in1, h2.in3, h2.h0, h2.h2, h2.h1, h2.h3, fun _ => ⟨rfl, VBlkT.new zero6 rfl, h.bw.size⟩, h2.h5, h2.e1, h2.e3,
        fun _ => ⟨fun hn => absurd (h.in1 _ hn).2 (Nat.lt_irrefl _), fun hn => absurd (h.in3 _ hn).2 (Nat.lt_irrefl _)⟩, h2.d5, fun _ e => fun he => absurd (lt_of_block (h.h5 e).2.1) (by rw [← he]; exact Nat.lt_irrefl _)⟩
    · rintro L H a0 wa hL ⟨S1, S3, g4, g5, h⟩ _ _
      have h2 := h.grow (al1 wa (.cells zero6.toArray 27))
      exact op_val _ (w' := wa.alloc (.cells zero6.toArray 27)) (by unfold execOp; go_simp; rfl) ⟨_, rfl, S1, S3, g4, wa.heap.size, h2.bw, h2.in1, h2.in3, h2.h0, h2.h2, h2.h1, h2.h3, h2.h4, fun _ => ⟨rfl, VBlkT.new zero6 rfl, h.bw.size⟩, h2.e1, h2.e3, h2.d4,
        fun _ => ⟨fun hn => absurd (h.in1 _ hn).2 (Nat.lt_irrefl _), fun hn => absurd (h.in3 _ hn).2 (Nat.lt_irrefl _)⟩, fun e _ => fun he => absurd (lt_of_block (h.h4 e).2.1) (by rw [he]; exact Nat.lt_irrefl _)⟩
  · rintro vs L W7 hL ⟨S1, S3, g4, g5, h⟩
    obtain ⟨cs6, q26, J6⟩ := h.h1 (hL 1 (by decide))
    obtain ⟨cs7, q28, J7⟩ := h.h3 (hL 3 (by decide))
    obtain ⟨q7, P7, hg4⟩ := h.h4 (hL 4 (by decide))
    obtain ⟨q8, P8, hg5⟩ := h.h5 (hL 5 (by decide))
    have hd4 := h.d4 (hL 4 (by decide))
    have hd5 := h.d5 (hL 5 (by decide))
    have hne := h.d (hL 4 (by decide)) (hL 5 (by decide))
    obtain ⟨k6, m6, e6, s6, A6, n6, c6, B6, p6, d6, rfl⟩ := J6.cells
    obtain ⟨k7, m7, e7, s7, A7, n7, c7, B7, p7, d7, rfl⟩ := J7.cells
    have q26 : vs 1 = .agg #[.int .i64 k6, .int .i64 m6, .int .i64 e6, .string s6, .slice A6 n6 c6, .slice B6 p6 d6] := q26
    have q28 : vs 3 = .agg #[.int .i64 k7, .int .i64 m7, .int .i64 e7, .string s7, .slice A7 n7 c7, .slice B7 p7 d7] := q28
    have q7 : vs 4 = .pointer (some ⟨g4, 0, none⟩) := q7
    have q8 : vs 5 = .pointer (some ⟨g5, 0, none⟩) := q8
    have hB8 := (h.bw.trans (six_below W7 g4 (.int .i64 k6) (.int .i64 m6) (.int .i64 e6) (.string s6) (.slice A6 n6 c6) (.slice B6 p6 d6) hg4)).trans (six_below (six W7 g4 (.int .i64 k6) (.int .i64 m6) (.int .i64 e6) (.string s6) (.slice A6 n6 c6) (.slice B6 p6 d6)) g5 (.int .i64 k7) (.int .i64 m7) (.int .i64 e7) (.string s7) (.slice A7 n7 c7) (.slice B7 p7 d7) hg5)
    have hz8 : (six (six W7 g4 (.int .i64 k6) (.int .i64 m6) (.int .i64 e6) (.string s6) (.slice A6 n6 c6) (.slice B6 p6 d6)) g5 (.int .i64 k7) (.int .i64 m7) (.int .i64 e7) (.string s7) (.slice A7 n7 c7) (.slice B7 p7 d7)).heap.size = W7.heap.size := by rw [six_size, six_size]
    have J6' : JAt (six (six W7 g4 (.int .i64 k6) (.int .i64 m6) (.int .i64 e6) (.string s6) (.slice A6 n6 c6) (.slice B6 p6 d6)) g5 (.int .i64 k7) (.int .i64 m7) (.int .i64 e7) (.string s7) (.slice A7 n7 c7) (.slice B7 p7 d7)) (six (six W7 g4 (.int .i64 k6) (.int .i64 m6) (.int .i64 e6) (.string s6) (.slice A6 n6 c6) (.slice B6 p6 d6)) g5 (.int .i64 k7) (.int .i64 m7) (.int .i64 e7) (.string s7) (.slice A7 n7 c7) (.slice B7 p7 d7)).heap.size a (cells6 k6 m6 e6 s6 A6 n6 c6 B6 p6 d6) :=
      (J6.keep (T := S1) (fun g hg => (six_other _ g5 _ _ _ _ _ _ g (fun e => hd5.1 (e ▸ hg))).trans (six_other W7 g4 _ _ _ _ _ _ g (fun e => hd4.1 (e ▸ hg)))) (fun _ h => h)).at (fun g hg => Nat.lt_of_lt_of_eq (h.in1 g hg).2 hz8.symm)
    have J7' : JAt (six (six W7 g4 (.int .i64 k6) (.int .i64 m6) (.int .i64 e6) (.string s6) (.slice A6 n6 c6) (.slice B6 p6 d6)) g5 (.int .i64 k7) (.int .i64 m7) (.int .i64 e7) (.string s7) (.slice A7 n7 c7) (.slice B7 p7 d7)) (six (six W7 g4 (.int .i64 k6) (.int .i64 m6) (.int .i64 e6) (.string s6) (.slice A6 n6 c6) (.slice B6 p6 d6)) g5 (.int .i64 k7) (.int .i64 m7) (.int .i64 e7) (.string s7) (.slice A7 n7 c7) (.slice B7 p7 d7)).heap.size b (cells6 k7 m7 e7 s7 A7 n7 c7 B7 p7 d7) :=
      (J7.keep (T := S3) (fun g hg => (six_other _ g5 _ _ _ _ _ _ g (fun e => hd5.2 (e ▸ hg))).trans (six_other W7 g4 _ _ _ _ _ _ g (fun e => hd4.2 (e ▸ hg)))) (fun _ h => h)).at (fun g hg => Nat.lt_of_lt_of_eq (h.in3 g hg).2 hz8.symm)
    have HF := Keep.mk (show VB (six (six W7 g4 (.int .i64 k6) (.int .i64 m6) (.int .i64 e6) (.string s6) (.slice A6 n6 c6) (.slice B6 p6 d6)) g5 (.int .i64 k7) (.int .i64 m7) (.int .i64 e7) (.string s7) (.slice A7 n7 c7) (.slice B7 p7 d7)) w.heap.size a (cells6 k3 m3 e3 s3 A3 n3 c3 B3 p3 d3) ∧ VB (six (six W7 g4 (.int .i64 k6) (.int .i64 m6) (.int .i64 e6) (.string s6) (.slice A6 n6 c6) (.slice B6 p6 d6)) g5 (.int .i64 k7) (.int .i64 m7) (.int .i64 e7) (.string s7) (.slice A7 n7 c7) (.slice B7 p7 d7)) (w.heap.size + 1) b (cells6 k4 m4 e4 s4 A4 n4 c4 B4 p4 d4) ∧ VB (six (six W7 g4 (.int .i64 k6) (.int .i64 m6) (.int .i64 e6) (.string s6) (.slice A6 n6 c6) (.slice B6 p6 d6)) g5 (.int .i64 k7) (.int .i64 m7) (.int .i64 e7) (.string s7) (.slice A7 n7 c7) (.slice B7 p7 d7)) g4 a (cells6 k6 m6 e6 s6 A6 n6 c6 B6 p6 d6) ∧ VB (six (six W7 g4 (.int .i64 k6) (.int .i64 m6) (.int .i64 e6) (.string s6) (.slice A6 n6 c6) (.slice B6 p6 d6)) g5 (.int .i64 k7) (.int .i64 m7) (.int .i64 e7) (.string s7) (.slice A7 n7 c7) (.slice B7 p7 d7)) g5 b (cells6 k7 m7 e7 s7 A7 n7 c7 B7 p7 d7) ∧ Below w.heap.size w (six (six W7 g4 (.int .i64 k6) (.int .i64 m6) (.int .i64 e6) (.string s6) (.slice A6 n6 c6) (.slice B6 p6 d6)) g5 (.int .i64 k7) (.int .i64 m7) (.int .i64 e7) (.string s7) (.slice A7 n7 c7) (.slice B7 p7 d7)) from
      ⟨H3.out.up hB8, H4.out.up hB8, ⟨boxS6_other (boxS6 P7.box _ _ _ _ _ _) hne.symm _ _ _ _ _ _, J6'⟩, ⟨boxS6 (boxS6_other P8.box hne _ _ _ _ _ _) _ _ _ _ _ _, J7'⟩, up HB.out hB8⟩)
    clear J6 J7 J6' J7' h hB8 hz8 hd4 hd5 hg4 hg5 H3 H4 HB CX CY BX BY
    simp only [List.take, List.drop, putL]
    rw [q26, q28, q7, q8]
    generalize vs 0 = v0
    generalize vs 2 = v2
    clear q26 q28 q7 q8
    have PB7 := P7.box
    have PB8 := P8.box
    have hne2 := hne.symm
    clear P7 P8
    have u0 := PB7.cell 0 _ rfl
    have uf0 := PB7.froz 0
    have u1 := PB7.cell 1 _ rfl
    have uf1 := PB7.froz 1
    have u2 := PB7.cell 2 _ rfl
    have uf2 := PB7.froz 2
    have u3 := PB7.cell 3 _ rfl
    have uf3 := PB7.froz 3
    have u4 := PB7.cell 4 _ rfl
    have uf4 := PB7.froz 4
    have u5 := PB7.cell 5 _ rfl
    have uf5 := PB7.froz 5
    have ul := PB7.lt
    have v0 := PB8.cell 0 _ rfl
    have vf0 := PB8.froz 0
    have v1 := PB8.cell 1 _ rfl
    have vf1 := PB8.froz 1
    have v2 := PB8.cell 2 _ rfl
    have vf2 := PB8.froz 2
    have v3 := PB8.cell 3 _ rfl
    have vf3 := PB8.froz 3
    have v4 := PB8.cell 4 _ rfl
    have vf4 := PB8.froz 4
    have v5 := PB8.cell 5 _ rfl
    have vf5 := PB8.froz 5
    have vl := PB8.lt
    go_upto_region 4 with fail
    refine wp_world (fun W => VB W w.heap.size a (cells6 k3 m3 e3 s3 A3 n3 c3 B3 p3 d3) ∧ VB W (w.heap.size + 1) b (cells6 k4 m4 e4 s4 A4 n4 c4 B4 p4 d4) ∧ VB W g4 a (cells6 k6 m6 e6 s6 A6 n6 c6 B6 p6 d6) ∧ VB W g5 b (cells6 k7 m7 e7 s7 A7 n7 c7 B7 p7 d7) ∧ Below w.heap.size w W) HF.out ?_
    clear HF PB7 PB8 hne hne2 u0 uf0 v0 vf0 u1 uf1 v1 vf1 u2 uf2 v2 vf2 u3 uf3 v3 vf3 u4 uf4 v4 vf4 u5 uf5 v5 vf5 ul vl
    rintro V3 ⟨H3, H4, H6, H7, HB⟩
    replace H3 := Keep.mk H3
    replace H4 := Keep.mk H4
    replace H6 := Keep.mk H6
    replace H7 := Keep.mk H7
    replace HB := Keep.mk HB
    go_wp2_with fail
    go_loopg [31] 3 (fun gk i wr => ∃ j : Nat, j + gk = 3 ∧ i = .int .i64 j ∧ Keep (VB wr w.heap.size a (cells6 k3 m3 e3 s3 A3 n3 c3 B3 p3 d3)) ∧ Keep (VB wr (w.heap.size + 1) b (cells6 k4 m4 e4 s4 A4 n4 c4 B4 p4 d4)) ∧ Keep (VB wr g4 a (cells6 k6 m6 e6 s6 A6 n6 c6 B6 p6 d6)) ∧ Keep (VB wr g5 b (cells6 k7 m7 e7 s7 A7 n7 c7 B7 p7 d7)) ∧ Keep (Below w.heap.size w wr))
    case atStart => exact ⟨0, by omega, rfl, H3, H4, H6, H7, HB⟩
    case round =>
      clear H3 H4 H6 H7 HB
      obtain ⟨j, hj, rfl, H3, H4, H6, H7, HB⟩ := hrel
      by_cases hlt : j < 3
      · have hgk : gk ≠ 0 := by omega
        match j, hlt with
        | 0, _ =>
          obtain ⟨⟨t5, f5⟩, h5⟩ : ∃ p, withJ ⟨#[104, 97, 115]⟩ a b = p := ⟨_, rfl⟩
          have q1 := Keep.mk (QC.out ⟨#[104, 97, 115]⟩)
          have q2 := Keep.mk (QR.out ⟨#[104, 97, 115]⟩)
          rw [h5] at q1 q2
          clear h5
          have x6_0 := H6.out.x.cell 0 _ rfl
          have x6_1 := H6.out.x.cell 1 _ rfl
          have x6_2 := H6.out.x.cell 2 _ rfl
          have x6_3 := H6.out.x.cell 3 _ rfl
          have x6_4 := H6.out.x.cell 4 _ rfl
          have x6_5 := H6.out.x.cell 5 _ rfl
          have xl6 := H6.out.x.lt
          have x7_0 := H7.out.x.cell 0 _ rfl
          have x7_1 := H7.out.x.cell 1 _ rfl
          have x7_2 := H7.out.x.cell 2 _ rfl
          have x7_3 := H7.out.x.cell 3 _ rfl
          have x7_4 := H7.out.x.cell 4 _ rfl
          have x7_5 := H7.out.x.cell 5 _ rfl
          have xl7 := H7.out.x.lt
          go_wp2_with fail
          refine (q1.out wr _ _ HB.out H6.out.j H7.out.j).mono ?_
          rintro r W8 ⟨cs', hr, hj, hb⟩
          obtain ⟨k8, m8, e8, s8, A8, n8, c8, B8, p8, d8, rfl⟩ := hj.cells
          have hr : r = .returned (.tuple #[.agg #[.int .i64 k8, .int .i64 m8, .int .i64 e8, .string s8, .slice A8 n8 c8, .slice B8 p8 d8], .int .i64 f5]) := hr
          subst hr
          have HJ := Keep.mk hj.jat
          clear hj x6_0 x6_1 x6_2 x6_3 x6_4 x6_5 xl6 x7_0 x7_1 x7_2 x7_3 x7_4 x7_5 xl7
          go_upto_region 8 with fail
          refine wp_world (fun W => Below wr.heap.size wr W ∧ VB W W8.heap.size t5 (cells6 k8 m8 e8 s8 A8 n8 c8 B8 p8 d8)) ⟨up hb (al1 _ _), Box.new (cells6 k8 m8 e8 s8 A8 n8 c8 B8 p8 d8) _ rfl, HJ.out.up (al1 _ _)⟩ ?_
          clear hb HJ
          rintro V8 ⟨hq, H8⟩
          replace H8 := Keep.mk H8
          replace H3 := Keep.mk (H3.out.up hq)
          replace H4 := Keep.mk (H4.out.up hq)
          replace H6 := Keep.mk (H6.out.up hq)
          replace H7 := Keep.mk (H7.out.up hq)
          replace HB := Keep.mk (up HB.out hq)
          clear hq
          have x3_0 := H3.out.x.cell 0 _ rfl
          have x3_1 := H3.out.x.cell 1 _ rfl
          have x3_2 := H3.out.x.cell 2 _ rfl
          have x3_3 := H3.out.x.cell 3 _ rfl
          have x3_4 := H3.out.x.cell 4 _ rfl
          have x3_5 := H3.out.x.cell 5 _ rfl
          have xl3 := H3.out.x.lt
          have x4_0 := H4.out.x.cell 0 _ rfl
          have x4_1 := H4.out.x.cell 1 _ rfl
          have x4_2 := H4.out.x.cell 2 _ rfl
          have x4_3 := H4.out.x.cell 3 _ rfl
          have x4_4 := H4.out.x.cell 4 _ rfl
          have x4_5 := H4.out.x.cell 5 _ rfl
          have xl4 := H4.out.x.lt
          go_wp2_with fail
          refine (q2.out V8 _ _ H3.out.j H4.out.j).mono ?_
          rintro r W9 ⟨cs', hr, hj, hb⟩
          obtain ⟨k9, m9, e9, s9, A9, n9, c9, B9, p9, d9, rfl⟩ := hj.inn.cells
          have hr : r = .returned (.tuple #[.agg #[.int .i64 k9, .int .i64 m9, .int .i64 e9, .string s9, .slice A9 n9 c9, .slice B9 p9 d9], .int .i64 f5]) := hr
          subst hr
          have HJ := Keep.mk hj
          clear hj x3_0 x3_1 x3_2 x3_3 x3_4 x3_5 xl3 x4_0 x4_1 x4_2 x4_3 x4_4 x4_5 xl4
          go_upto_region 9 with fail
          refine wp_world (fun W => Below V8.heap.size V8 W ∧ VB W W9.heap.size t5 (cells6 k9 m9 e9 s9 A9 n9 c9 B9 p9 d9)) ⟨up hb (al1 _ _), Box.new (cells6 k9 m9 e9 s9 A9 n9 c9 B9 p9 d9) _ rfl, HJ.out.up (al1 _ _)⟩ ?_
          clear hb HJ
          rintro V9 ⟨hq, H9⟩
          replace H9 := Keep.mk H9
          replace H3 := Keep.mk (H3.out.up hq)
          replace H4 := Keep.mk (H4.out.up hq)
          replace H6 := Keep.mk (H6.out.up hq)
          replace H7 := Keep.mk (H7.out.up hq)
          replace H8 := Keep.mk (H8.out.up hq)
          replace HB := Keep.mk (up HB.out hq)
          clear hq
          have x8_0 := H8.out.x.cell 0 _ rfl
          have x8_1 := H8.out.x.cell 1 _ rfl
          have x8_2 := H8.out.x.cell 2 _ rfl
          have x8_3 := H8.out.x.cell 3 _ rfl
          have x8_4 := H8.out.x.cell 4 _ rfl
          have x8_5 := H8.out.x.cell 5 _ rfl
          have xl8 := H8.out.x.lt
          have x9_0 := H9.out.x.cell 0 _ rfl
          have x9_1 := H9.out.x.cell 1 _ rfl
          have x9_2 := H9.out.x.cell 2 _ rfl
          have x9_3 := H9.out.x.cell 3 _ rfl
          have x9_4 := H9.out.x.cell 4 _ rfl
          have x9_5 := H9.out.x.cell 5 _ rfl
          have xl9 := H9.out.x.lt
          go_wp2_with fail
          refine (ref3_Same _ t5 t5 (Nat.le_refl _) V9 _ _ H8.out.j H9.out.j).mono ?_
          rw [sameJ_self]
          rintro r V10 ⟨rfl, hq⟩
          replace H3 := Keep.mk (H3.out.up hq)
          replace H4 := Keep.mk (H4.out.up hq)
          replace H6 := Keep.mk (H6.out.up hq)
          replace H7 := Keep.mk (H7.out.up hq)
          replace HB := Keep.mk (up HB.out hq)
          clear hq x8_0 x8_1 x8_2 x8_3 x8_4 x8_5 xl8 x9_0 x9_1 x9_2 x9_3 x9_4 x9_5 xl9 H8 H9 q1 q2
          go_wp2
          go_roundg (gk - 1)
          case rel => exact ⟨1, by omega, by go_num, H3, H4, H6, H7, HB⟩
          case measure => omega
        | 1, _ =>
          obtain ⟨⟨t5, f5⟩, h5⟩ : ∃ p, withJ ⟨#[106, 111, 105, 110]⟩ a b = p := ⟨_, rfl⟩
          have q1 := Keep.mk (QC.out ⟨#[106, 111, 105, 110]⟩)
          have q2 := Keep.mk (QR.out ⟨#[106, 111, 105, 110]⟩)
          rw [h5] at q1 q2
          clear h5
          have x6_0 := H6.out.x.cell 0 _ rfl
          have x6_1 := H6.out.x.cell 1 _ rfl
          have x6_2 := H6.out.x.cell 2 _ rfl
          have x6_3 := H6.out.x.cell 3 _ rfl
          have x6_4 := H6.out.x.cell 4 _ rfl
          have x6_5 := H6.out.x.cell 5 _ rfl
          have xl6 := H6.out.x.lt
          have x7_0 := H7.out.x.cell 0 _ rfl
          have x7_1 := H7.out.x.cell 1 _ rfl
          have x7_2 := H7.out.x.cell 2 _ rfl
          have x7_3 := H7.out.x.cell 3 _ rfl
          have x7_4 := H7.out.x.cell 4 _ rfl
          have x7_5 := H7.out.x.cell 5 _ rfl
          have xl7 := H7.out.x.lt
          go_wp2_with fail
          refine (q1.out wr _ _ HB.out H6.out.j H7.out.j).mono ?_
          rintro r W8 ⟨cs', hr, hj, hb⟩
          obtain ⟨k8, m8, e8, s8, A8, n8, c8, B8, p8, d8, rfl⟩ := hj.cells
          have hr : r = .returned (.tuple #[.agg #[.int .i64 k8, .int .i64 m8, .int .i64 e8, .string s8, .slice A8 n8 c8, .slice B8 p8 d8], .int .i64 f5]) := hr
          subst hr
          have HJ := Keep.mk hj.jat
          clear hj x6_0 x6_1 x6_2 x6_3 x6_4 x6_5 xl6 x7_0 x7_1 x7_2 x7_3 x7_4 x7_5 xl7
          go_upto_region 8 with fail
          refine wp_world (fun W => Below wr.heap.size wr W ∧ VB W W8.heap.size t5 (cells6 k8 m8 e8 s8 A8 n8 c8 B8 p8 d8)) ⟨up hb (al1 _ _), Box.new (cells6 k8 m8 e8 s8 A8 n8 c8 B8 p8 d8) _ rfl, HJ.out.up (al1 _ _)⟩ ?_
          clear hb HJ
          rintro V8 ⟨hq, H8⟩
          replace H8 := Keep.mk H8
          replace H3 := Keep.mk (H3.out.up hq)
          replace H4 := Keep.mk (H4.out.up hq)
          replace H6 := Keep.mk (H6.out.up hq)
          replace H7 := Keep.mk (H7.out.up hq)
          replace HB := Keep.mk (up HB.out hq)
          clear hq
          have x3_0 := H3.out.x.cell 0 _ rfl
          have x3_1 := H3.out.x.cell 1 _ rfl
          have x3_2 := H3.out.x.cell 2 _ rfl
          have x3_3 := H3.out.x.cell 3 _ rfl
          have x3_4 := H3.out.x.cell 4 _ rfl
          have x3_5 := H3.out.x.cell 5 _ rfl
          have xl3 := H3.out.x.lt
          have x4_0 := H4.out.x.cell 0 _ rfl
          have x4_1 := H4.out.x.cell 1 _ rfl
          have x4_2 := H4.out.x.cell 2 _ rfl
          have x4_3 := H4.out.x.cell 3 _ rfl
          have x4_4 := H4.out.x.cell 4 _ rfl
          have x4_5 := H4.out.x.cell 5 _ rfl
          have xl4 := H4.out.x.lt
          go_wp2_with fail
          refine (q2.out V8 _ _ H3.out.j H4.out.j).mono ?_
          rintro r W9 ⟨cs', hr, hj, hb⟩
          obtain ⟨k9, m9, e9, s9, A9, n9, c9, B9, p9, d9, rfl⟩ := hj.inn.cells
          have hr : r = .returned (.tuple #[.agg #[.int .i64 k9, .int .i64 m9, .int .i64 e9, .string s9, .slice A9 n9 c9, .slice B9 p9 d9], .int .i64 f5]) := hr
          subst hr
          have HJ := Keep.mk hj
          clear hj x3_0 x3_1 x3_2 x3_3 x3_4 x3_5 xl3 x4_0 x4_1 x4_2 x4_3 x4_4 x4_5 xl4
          go_upto_region 9 with fail
          refine wp_world (fun W => Below V8.heap.size V8 W ∧ VB W W9.heap.size t5 (cells6 k9 m9 e9 s9 A9 n9 c9 B9 p9 d9)) ⟨up hb (al1 _ _), Box.new (cells6 k9 m9 e9 s9 A9 n9 c9 B9 p9 d9) _ rfl, HJ.out.up (al1 _ _)⟩ ?_
          clear hb HJ
          rintro V9 ⟨hq, H9⟩
          replace H9 := Keep.mk H9
          replace H3 := Keep.mk (H3.out.up hq)
          replace H4 := Keep.mk (H4.out.up hq)
          replace H6 := Keep.mk (H6.out.up hq)
          replace H7 := Keep.mk (H7.out.up hq)
          replace H8 := Keep.mk (H8.out.up hq)
          replace HB := Keep.mk (up HB.out hq)
          clear hq
          have x8_0 := H8.out.x.cell 0 _ rfl
          have x8_1 := H8.out.x.cell 1 _ rfl
          have x8_2 := H8.out.x.cell 2 _ rfl
          have x8_3 := H8.out.x.cell 3 _ rfl
          have x8_4 := H8.out.x.cell 4 _ rfl
          have x8_5 := H8.out.x.cell 5 _ rfl
          have xl8 := H8.out.x.lt
          have x9_0 := H9.out.x.cell 0 _ rfl
          have x9_1 := H9.out.x.cell 1 _ rfl
          have x9_2 := H9.out.x.cell 2 _ rfl
          have x9_3 := H9.out.x.cell 3 _ rfl
          have x9_4 := H9.out.x.cell 4 _ rfl
          have x9_5 := H9.out.x.cell 5 _ rfl
          have xl9 := H9.out.x.lt
          go_wp2_with fail
          refine (ref3_Same _ t5 t5 (Nat.le_refl _) V9 _ _ H8.out.j H9.out.j).mono ?_
          rw [sameJ_self]
          rintro r V10 ⟨rfl, hq⟩
          replace H3 := Keep.mk (H3.out.up hq)
          replace H4 := Keep.mk (H4.out.up hq)
          replace H6 := Keep.mk (H6.out.up hq)
          replace H7 := Keep.mk (H7.out.up hq)
          replace HB := Keep.mk (up HB.out hq)
          clear hq x8_0 x8_1 x8_2 x8_3 x8_4 x8_5 xl8 x9_0 x9_1 x9_2 x9_3 x9_4 x9_5 xl9 H8 H9 q1 q2
          go_wp2
          go_roundg (gk - 1)
          case rel => exact ⟨2, by omega, by go_num, H3, H4, H6, H7, HB⟩
          case measure => omega
        | 2, _ =>
          obtain ⟨⟨t5, f5⟩, h5⟩ : ∃ p, withJ nm a b = p := ⟨_, rfl⟩
          have q1 := Keep.mk (QC.out nm)
          have q2 := Keep.mk (QR.out nm)
          rw [h5] at q1 q2
          clear h5
          have x6_0 := H6.out.x.cell 0 _ rfl
          have x6_1 := H6.out.x.cell 1 _ rfl
          have x6_2 := H6.out.x.cell 2 _ rfl
          have x6_3 := H6.out.x.cell 3 _ rfl
          have x6_4 := H6.out.x.cell 4 _ rfl
          have x6_5 := H6.out.x.cell 5 _ rfl
          have xl6 := H6.out.x.lt
          have x7_0 := H7.out.x.cell 0 _ rfl
          have x7_1 := H7.out.x.cell 1 _ rfl
          have x7_2 := H7.out.x.cell 2 _ rfl
          have x7_3 := H7.out.x.cell 3 _ rfl
          have x7_4 := H7.out.x.cell 4 _ rfl
          have x7_5 := H7.out.x.cell 5 _ rfl
          have xl7 := H7.out.x.lt
          go_wp2_with fail
          refine (q1.out wr _ _ HB.out H6.out.j H7.out.j).mono ?_
          rintro r W8 ⟨cs', hr, hj, hb⟩
          obtain ⟨k8, m8, e8, s8, A8, n8, c8, B8, p8, d8, rfl⟩ := hj.cells
          have hr : r = .returned (.tuple #[.agg #[.int .i64 k8, .int .i64 m8, .int .i64 e8, .string s8, .slice A8 n8 c8, .slice B8 p8 d8], .int .i64 f5]) := hr
          subst hr
          have HJ := Keep.mk hj.jat
          clear hj x6_0 x6_1 x6_2 x6_3 x6_4 x6_5 xl6 x7_0 x7_1 x7_2 x7_3 x7_4 x7_5 xl7
          go_upto_region 8 with fail
          refine wp_world (fun W => Below wr.heap.size wr W ∧ VB W W8.heap.size t5 (cells6 k8 m8 e8 s8 A8 n8 c8 B8 p8 d8)) ⟨up hb (al1 _ _), Box.new (cells6 k8 m8 e8 s8 A8 n8 c8 B8 p8 d8) _ rfl, HJ.out.up (al1 _ _)⟩ ?_
          clear hb HJ
          rintro V8 ⟨hq, H8⟩
          replace H8 := Keep.mk H8
          replace H3 := Keep.mk (H3.out.up hq)
          replace H4 := Keep.mk (H4.out.up hq)
          replace H6 := Keep.mk (H6.out.up hq)
          replace H7 := Keep.mk (H7.out.up hq)
          replace HB := Keep.mk (up HB.out hq)
          clear hq
          have x3_0 := H3.out.x.cell 0 _ rfl
          have x3_1 := H3.out.x.cell 1 _ rfl
          have x3_2 := H3.out.x.cell 2 _ rfl
          have x3_3 := H3.out.x.cell 3 _ rfl
          have x3_4 := H3.out.x.cell 4 _ rfl
          have x3_5 := H3.out.x.cell 5 _ rfl
          have xl3 := H3.out.x.lt
          have x4_0 := H4.out.x.cell 0 _ rfl
          have x4_1 := H4.out.x.cell 1 _ rfl
          have x4_2 := H4.out.x.cell 2 _ rfl
          have x4_3 := H4.out.x.cell 3 _ rfl
          have x4_4 := H4.out.x.cell 4 _ rfl
          have x4_5 := H4.out.x.cell 5 _ rfl
          have xl4 := H4.out.x.lt
          go_wp2_with fail
          refine (q2.out V8 _ _ H3.out.j H4.out.j).mono ?_
          rintro r W9 ⟨cs', hr, hj, hb⟩
          obtain ⟨k9, m9, e9, s9, A9, n9, c9, B9, p9, d9, rfl⟩ := hj.inn.cells
          have hr : r = .returned (.tuple #[.agg #[.int .i64 k9, .int .i64 m9, .int .i64 e9, .string s9, .slice A9 n9 c9, .slice B9 p9 d9], .int .i64 f5]) := hr
          subst hr
          have HJ := Keep.mk hj
          clear hj x3_0 x3_1 x3_2 x3_3 x3_4 x3_5 xl3 x4_0 x4_1 x4_2 x4_3 x4_4 x4_5 xl4
          go_upto_region 9 with fail
          refine wp_world (fun W => Below V8.heap.size V8 W ∧ VB W W9.heap.size t5 (cells6 k9 m9 e9 s9 A9 n9 c9 B9 p9 d9)) ⟨up hb (al1 _ _), Box.new (cells6 k9 m9 e9 s9 A9 n9 c9 B9 p9 d9) _ rfl, HJ.out.up (al1 _ _)⟩ ?_
          clear hb HJ
          rintro V9 ⟨hq, H9⟩
          replace H9 := Keep.mk H9
          replace H3 := Keep.mk (H3.out.up hq)
          replace H4 := Keep.mk (H4.out.up hq)
          replace H6 := Keep.mk (H6.out.up hq)
          replace H7 := Keep.mk (H7.out.up hq)
          replace H8 := Keep.mk (H8.out.up hq)
          replace HB := Keep.mk (up HB.out hq)
          clear hq
          have x8_0 := H8.out.x.cell 0 _ rfl
          have x8_1 := H8.out.x.cell 1 _ rfl
          have x8_2 := H8.out.x.cell 2 _ rfl
          have x8_3 := H8.out.x.cell 3 _ rfl
          have x8_4 := H8.out.x.cell 4 _ rfl
          have x8_5 := H8.out.x.cell 5 _ rfl
          have xl8 := H8.out.x.lt
          have x9_0 := H9.out.x.cell 0 _ rfl
          have x9_1 := H9.out.x.cell 1 _ rfl
          have x9_2 := H9.out.x.cell 2 _ rfl
          have x9_3 := H9.out.x.cell 3 _ rfl
          have x9_4 := H9.out.x.cell 4 _ rfl
          have x9_5 := H9.out.x.cell 5 _ rfl
          have xl9 := H9.out.x.lt
          go_wp2_with fail
          refine (ref3_Same _ t5 t5 (Nat.le_refl _) V9 _ _ H8.out.j H9.out.j).mono ?_
          rw [sameJ_self]
          rintro r V10 ⟨rfl, hq⟩
          replace H3 := Keep.mk (H3.out.up hq)
          replace H4 := Keep.mk (H4.out.up hq)
          replace H6 := Keep.mk (H6.out.up hq)
          replace H7 := Keep.mk (H7.out.up hq)
          replace HB := Keep.mk (up HB.out hq)
          clear hq x8_0 x8_1 x8_2 x8_3 x8_4 x8_5 xl8 x9_0 x9_1 x9_2 x9_3 x9_4 x9_5 xl9 H8 H9 q1 q2
          go_wp2
          go_roundg (gk - 1)
          case rel => exact ⟨3, by omega, by go_num, H3, H4, H6, H7, HB⟩
          case measure => omega
      · obtain rfl : j = 3 := by omega
        clear QC QR
        have x6_0 := H6.out.x.cell 0 _ rfl
        have x6_1 := H6.out.x.cell 1 _ rfl
        have x6_2 := H6.out.x.cell 2 _ rfl
        have x6_3 := H6.out.x.cell 3 _ rfl
        have x6_4 := H6.out.x.cell 4 _ rfl
        have x6_5 := H6.out.x.cell 5 _ rfl
        have xl6 := H6.out.x.lt
        have x3_0 := H3.out.x.cell 0 _ rfl
        have x3_1 := H3.out.x.cell 1 _ rfl
        have x3_2 := H3.out.x.cell 2 _ rfl
        have x3_3 := H3.out.x.cell 3 _ rfl
        have x3_4 := H3.out.x.cell 4 _ rfl
        have x3_5 := H3.out.x.cell 5 _ rfl
        have xl3 := H3.out.x.lt
        go_wp2_with fail
        refine (ref3_Same _ a a (Nat.le_refl _) wr _ _ H6.out.j H3.out.j).mono ?_
        rw [sameJ_self]
        rintro r V10 ⟨rfl, hq⟩
        replace H4 := Keep.mk (H4.out.up hq)
        replace H7 := Keep.mk (H7.out.up hq)
        replace HB := Keep.mk (up HB.out hq)
        clear hq x6_0 x6_1 x6_2 x6_3 x6_4 x6_5 xl6 x3_0 x3_1 x3_2 x3_3 x3_4 x3_5 xl3 H6 H3
        have x7_0 := H7.out.x.cell 0 _ rfl
        have x7_1 := H7.out.x.cell 1 _ rfl
        have x7_2 := H7.out.x.cell 2 _ rfl
        have x7_3 := H7.out.x.cell 3 _ rfl
        have x7_4 := H7.out.x.cell 4 _ rfl
        have x7_5 := H7.out.x.cell 5 _ rfl
        have xl7 := H7.out.x.lt
        have x4_0 := H4.out.x.cell 0 _ rfl
        have x4_1 := H4.out.x.cell 1 _ rfl
        have x4_2 := H4.out.x.cell 2 _ rfl
        have x4_3 := H4.out.x.cell 3 _ rfl
        have x4_4 := H4.out.x.cell 4 _ rfl
        have x4_5 := H4.out.x.cell 5 _ rfl
        have xl4 := H4.out.x.lt
        go_wp2_with fail
        refine (ref3_Same _ b b (Nat.le_refl _) V10 _ _ H7.out.j H4.out.j).mono ?_
        rw [sameJ_self]
        rintro r V11 ⟨rfl, hq⟩
        replace HB := Keep.mk (up HB.out hq)
        clear hq x7_0 x7_1 x7_2 x7_3 x7_4 x7_5 xl7 x4_0 x4_1 x4_2 x4_3 x4_4 x4_5 xl4 H7 H4
        have HWW := Keep.mk (HWK.out V11 HB.out)
        go_wp2_with fail
        refine HWW.out.mono ?_
        rintro r V12 ⟨rfl, hq⟩
        replace HB := Keep.mk (up HB.out hq)
        clear hq HWW
        go_wp2
        go_ret
        exact ⟨rfl, HB.out⟩
end Go.Proofs.YtnkokhpadcgfbaaGreatDoor
