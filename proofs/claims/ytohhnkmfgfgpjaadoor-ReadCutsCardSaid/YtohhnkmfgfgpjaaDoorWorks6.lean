/- Chapter 6's examples hold. Conditions: those that it names. -/
import Derived.Test.YtohhnkmfgfgpjaaDoorReadP
import Derived.Test.YtohhnkmfgfgpjaaDoorRead6Math
import Derived.Outline
namespace Go.Proofs.YtohhnkmfgfgpjaaDoor
open Go Go.RowKit Go.Proofs Th
attribute [local go_sem] Above.cell Above.frozen

/-- a slice of whole numbers -/
structure NumsAt (W : World) (B : Nat) (A : Option Addr) (c : Nat) (zs : List Int) : Prop where
  le : zs.length ≤ c
  cap : zs.length ≤ 140737488351232
  top : c ≤ 9223372036854775807
  i64 : ∀ z ∈ zs, I64 z
  at_ : 0 < zs.length → ∃ g o, A = some ⟨g, o, none⟩ ∧ g < B ∧ ∀ j (h : j < zs.length), W.cell? ⟨g, o + j, none⟩ = some (.int .i64 zs[j])
theorem NumsAt.below {W W' : World} {B : Nat} {A : Option Addr} {c : Nat} {zs : List Int} (h : NumsAt W B A c zs) (hb : Below B W W') : NumsAt W' B A c zs :=
  ⟨h.le, h.cap, h.top, h.i64, fun hn => by
    obtain ⟨g, o, e, hg, hc⟩ := h.at_ hn
    exact ⟨g, o, e, hg, fun j hj => (cell_block (hb.block g hg)).trans (hc j hj)⟩⟩
/-- the first example's value, as it lies in memory -/
structure ExA (W : World) (p g o c g2 o2 c2 : Nat) (A : Option Addr) (n c' : Nat) : Prop where
  box : Box W p [.int .i64 5, .int .i64 0, .int .i64 0, .string ⟨#[]⟩, .slice (some ⟨g, o, none⟩) 2 c, .slice A n c']
  k : W.cell? ⟨g, o + 6, none⟩ = some (.int .i64 6)
  l : W.cell? ⟨g, o + 6 + 4, none⟩ = some (.slice (some ⟨g2, o2, none⟩) 1 c2)
  m : W.cell? ⟨g2, o2 + 1, none⟩ = some (.int .i64 3)
  hg : g < W.heap.size
  hg2 : g2 < W.heap.size
  c : 2 ≤ c ∧ c ≤ 9223372036854775807
  c2 : 1 ≤ c2 ∧ c2 ≤ 9223372036854775807
theorem ExA.below {W W' : World} {p g o c g2 o2 c2 : Nat} {A : Option Addr} {n c' : Nat} (h : ExA W p g o c g2 o2 c2 A n c') (hb : Below W.heap.size W W') : ExA W' p g o c g2 o2 c2 A n c' :=
  ⟨h.box.below hb h.box.lt, (cell_block (hb.block g h.hg)).trans h.k, (cell_block (hb.block g h.hg)).trans h.l, (cell_block (hb.block g2 h.hg2)).trans h.m, Nat.lt_of_lt_of_le h.hg hb.size, Nat.lt_of_lt_of_le h.hg2 hb.size, h.c, h.c2⟩
theorem exA_open {W : World} {S : Nat → Prop} {cs : List Value} (hS : ∀ b, S b → b < W.heap.size) (h : JIn W S (.mk 5 0 0 ⟨#[]⟩ [numJ 1, .mk 6 0 0 ⟨#[]⟩ [numJ 3] [keyA]] []) cs) :
    ∃ g o c g2 o2 c2 A n c', cs = [.int .i64 5, .int .i64 0, .int .i64 0, .string ⟨#[]⟩, .slice (some ⟨g, o, none⟩) 2 c, .slice A n c'] ∧ ∀ t, ExA (W.alloc (.cells cs.toArray t)) W.heap.size g o c g2 o2 c2 A n c' := by
  obtain ⟨A, c, A', c', rfl, _, _, _, _, _, hV⟩ := h.open
  obtain ⟨g, o, cs1, rfl, hg, hc1, hJ1⟩ := hV.at_ 1 (by decide)
  obtain ⟨A2, c2, A3, c3, rfl, _, _, _, _, _, hV2⟩ := JIn.open (k := 6) (m := 0) (e := 0) (s := ⟨#[]⟩) (l := [numJ 3]) (ks := [keyA]) hJ1
  obtain ⟨g2, o2, cs2, rfl, hg2, hc2, hJ2⟩ := hV2.at_ 0 (by decide)
  obtain ⟨A4, c4, A5, c5, rfl, _, _, _, _, _, _⟩ := JIn.open (k := 3) (m := 3) (e := 0) (s := ⟨#[]⟩) (l := []) (ks := []) hJ2
  have hl1 := hS g hg
  have hl2 := hS g2 hg2
  refine ⟨g, o, c, g2, o2, c2, A', 0, c', rfl, fun t => ?_⟩
  have hb := fun t => al1 W (.cells (cells6 5 0 0 ⟨#[]⟩ (some ⟨g, o, none⟩) 2 c A' 0 c').toArray t)
  refine ⟨Box.new (cells6 5 0 0 ⟨#[]⟩ (some ⟨g, o, none⟩) 2 c A' 0 c') t rfl, (cell_block ((hb t).block g hl1)).trans ?_, (cell_block ((hb t).block g hl1)).trans ?_, (cell_block ((hb t).block g2 hl2)).trans ?_, Nat.lt_of_lt_of_le hl1 (hb t).size, Nat.lt_of_lt_of_le hl2 (hb t).size, ⟨hV.le, hV.top⟩, ⟨hV2.le, hV2.top⟩⟩
  · have := hc1 0 _ rfl
    simpa using this
  · have := hc1 4 _ rfl
    simpa using this
  · have := hc2 1 _ rfl
    simpa using this
theorem ex_zero {W : World} {S : Nat → Prop} {cs : List Value} (h : JIn W S zeroJ cs) : ∃ A c A' c', cs = [.int .i64 0, .int .i64 0, .int .i64 0, .string ⟨#[]⟩, .slice A 0 c, .slice A' 0 c'] := by
  obtain ⟨A, c, A', c', rfl, _⟩ := JIn.open (k := 0) (m := 0) (e := 0) (s := ⟨#[]⟩) (l := []) (ks := []) h
  exact ⟨A, c, A', c', rfl⟩
set_option maxRecDepth 100000 in
set_option maxHeartbeats 4000000 in
theorem works6 (w : World) (hG : GlobV w) : Calls Tryd.prog 5 #[] w fun r w' => r = .returned (.bool true) ∧ Below w.heap.size w w' := by
  have HA : Keep (∀ W, GlobV W → Calls Tryd.prog 6 #[.string ⟨#[32, 91, 49, 44, 32, 123, 34, 97, 34, 58, 50, 44, 34, 97, 34, 58, 51, 125, 93, 32]⟩] W fun r w' => ∃ cs, r = .returned (.tuple #[.agg (List.toArray cs), .int .i64 0, .int .i64 0]) ∧ JIn w' (newIn W w') (.mk 5 0 0 ⟨#[]⟩ [numJ 1, .mk 6 0 0 ⟨#[]⟩ [numJ 3] [keyA]] []) cs ∧ Below W.heap.size W w') := ⟨fun W hg => by
    have h := read_Parse ⟨#[32, 91, 49, 44, 32, 123, 34, 97, 34, 58, 50, 44, 34, 97, 34, 58, 51, 125, 93, 32]⟩ (by decide) W hg
    rw [show readV madeJ (⟨#[32, 91, 49, 44, 32, 123, 34, 97, 34, 58, 50, 44, 34, 97, 34, 58, 51, 125, 93, 32]⟩ : ByteArray).data.toList = _ from read_exA] at h
    exact h⟩
  have HB : Keep (∀ W, GlobV W → Calls Tryd.prog 6 #[.string ⟨#[91, 49, 44, 93]⟩] W fun r w' => ∃ cs, r = .returned (.tuple #[.agg (List.toArray cs), .int .i64 3, .int .i64 60]) ∧ JIn w' (newIn W w') zeroJ cs ∧ Below W.heap.size W w') := ⟨fun W hg => by
    have h := read_Parse ⟨#[91, 49, 44, 93]⟩ (by decide) W hg
    rw [show readV madeJ (⟨#[91, 49, 44, 93]⟩ : ByteArray).data.toList = _ from read_exB] at h
    exact h⟩
  have HC : Keep (∀ W, GlobV W → Calls Tryd.prog 6 #[.string ⟨#[91, 49]⟩] W fun r w' => ∃ cs, r = .returned (.tuple #[.agg (List.toArray cs), .int .i64 2, .int .i64 60]) ∧ JIn w' (newIn W w') zeroJ cs ∧ Below W.heap.size W w') := ⟨fun W hg => by
    have h := read_Parse ⟨#[91, 49]⟩ (by decide) W hg
    rw [show readV madeJ (⟨#[91, 49]⟩ : ByteArray).data.toList = _ from read_exC] at h
    exact h⟩
  have HG := Keep.mk hG
  clear hG
  go_enter Tryd.func5, Tryd.ntmps5
  go_wp2_with fail
  refine (HA.out _ HG.out).mono ?_
  rintro r w1 ⟨cs, rfl, hJ, hb1⟩
  obtain ⟨g, o, c, g2, o2, c2, A9, n9, c9, rfl, hX⟩ := exA_open (fun b hb => hb.2) hJ
  have HX := Keep.mk (hX 28)
  have HB1 := Keep.mk (up hb1 (al1 w1 (.cells #[.int .i64 5, .int .i64 0, .int .i64 0, .string ⟨#[]⟩, .slice (some ⟨g, o, none⟩) 2 c, .slice A9 n9 c9] 28)))
  clear hJ hX hb1 HA
  go_upto_region 2 with fail
  refine wp_world (fun W => ExA W w1.heap.size g o c g2 o2 c2 A9 n9 c9 ∧ Below w.heap.size w W) ⟨HX.out, HB1.out⟩ ?_
  generalize w1.heap.size = p
  clear HX HB1
  rintro W2 ⟨HX, HB2⟩
  replace HX := Keep.mk HX
  replace HB2 := Keep.mk HB2
  go_wp2_with fail
  refine (HB.out _ (HG.out.below HB2.out)).mono ?_
  rintro r w3 ⟨cs, rfl, hJ, hb3⟩
  obtain ⟨A4, c4, A5, c5, rfl⟩ := ex_zero hJ
  have HX3 := Keep.mk ((HX.out.below hb3).below (al1 w3 (.cells #[.int .i64 0, .int .i64 0, .int .i64 0, .string ⟨#[]⟩, .slice A4 0 c4, .slice A5 0 c5] 28)))
  have HB3 := Keep.mk (up (up HB2.out hb3) (al1 w3 (.cells #[.int .i64 0, .int .i64 0, .int .i64 0, .string ⟨#[]⟩, .slice A4 0 c4, .slice A5 0 c5] 28)))
  clear hJ hb3 HB HX HB2
  go_upto_region 3 with fail
  refine wp_world (fun W => ExA W p g o c g2 o2 c2 A9 n9 c9 ∧ Below w.heap.size w W) ⟨HX3.out, HB3.out⟩ ?_
  generalize w3.heap.size = p3
  clear HX3 HB3
  rintro W4 ⟨HX, HB4⟩
  replace HX := Keep.mk HX
  replace HB4 := Keep.mk HB4
  go_wp2_with fail
  refine (HC.out _ (HG.out.below HB4.out)).mono ?_
  rintro r w5 ⟨cs, rfl, hJ, hb5⟩
  obtain ⟨A6, c6, A7, c7, rfl⟩ := ex_zero hJ
  have HX5 := Keep.mk ((HX.out.below hb5).below (al1 w5 (.cells #[.int .i64 0, .int .i64 0, .int .i64 0, .string ⟨#[]⟩, .slice A6 0 c6, .slice A7 0 c7] 28)))
  have HB5 := Keep.mk (up (up HB4.out hb5) (al1 w5 (.cells #[.int .i64 0, .int .i64 0, .int .i64 0, .string ⟨#[]⟩, .slice A6 0 c6, .slice A7 0 c7] 28)))
  clear hJ hb5 HC HX HB4
  go_upto_region 4 with fail
  refine wp_world (fun W => ExA W p g o c g2 o2 c2 A9 n9 c9 ∧ Below w.heap.size w W) ⟨HX5.out, HB5.out⟩ ?_
  generalize w5.heap.size = p5
  clear HX5 HB5
  rintro W6 ⟨HX, HB6⟩
  replace HX := Keep.mk HX
  replace HB6 := Keep.mk HB6
  have x0 := HX.out.box.cell 0 _ rfl
  have x4 := HX.out.box.cell 4 _ rfl
  have hxl := HX.out.box.lt
  have y0 := HX.out.k
  have y1 := HX.out.l
  have y2 := HX.out.m
  have hg := HX.out.hg
  have hg2 := HX.out.hg2
  have hc := HX.out.c.1
  have hc2 := HX.out.c2.1
  have hct := HX.out.c.2
  have hct2 := HX.out.c2.2
  clear HX
  go_wp2
  go_ret
  exact ⟨rfl, HB6.out⟩
end Go.Proofs.YtohhnkmfgfgpjaaDoor
