/- Lemmas and contracts for the laws CalcWith, part 41 of 50: CalcQ. Conditions: those that each lemma names. -/
import Derived.Test.YtnkokhpadcgfbaaGreatDoorPw40
namespace Go.Proofs.YtnkokhpadcgfbaaGreatDoor
open Go Go.RowKit Go.Proofs Th
attribute [local go_sem] Above.cell
def plainsB : List ByteArray := [⟨#[108, 101, 110, 103, 116, 104]⟩, ⟨#[110, 111, 116]⟩, ⟨#[116, 121, 112, 101]⟩, ⟨#[107, 101, 121, 115]⟩, ⟨#[97, 100, 100]⟩, ⟨#[116, 111, 115, 116, 114, 105, 110, 103]⟩, ⟨#[116, 111, 110, 117, 109, 98, 101, 114]⟩, ⟨#[115, 111, 114, 116]⟩, ⟨#[117, 110, 105, 113, 117, 101]⟩, ⟨#[109, 105, 110]⟩, ⟨#[109, 97, 120]⟩, ⟨#[114, 101, 118, 101, 114, 115, 101]⟩, ⟨#[102, 108, 111, 111, 114]⟩]
set_option maxRecDepth 100000 in
theorem calc_plain (s : ByteArray) (w : World) : Calls Tryz.prog 36 #[.string s] w fun r w' => r = .returned (.bool (Lib.containsS plainsB s)) ∧ Below w.heap.size w w' := by
  go_enter Tryz.func36, Tryz.ntmps36
  go_wp2_with fail
  refine (Tryz.slices_Contains_string w.heap.size 0 13 13 plainsB s _ (by decide) (by decide) (fun j hj => ?_)).mono ?_
  · have hB : Box (w.alloc (.cells (plainsB.map Value.string).toArray 9)) w.heap.size (plainsB.map .string) := Box.new _ _ rfl
    rw [Nat.zero_add]
    exact hB.cell j _ (by rw [List.getElem?_map, List.getElem?_eq_getElem hj, List.getD_eq_getElem?_getD, List.getElem?_eq_getElem hj]; rfl)
  · rintro r w1 ⟨rfl, rfl⟩
    go_wp2
    go_ret
    exact ⟨rfl, al1 _ _⟩
theorem one_valC (w : World) (a : JV) (k m e : Int) (s : ByteArray) (A : Option Addr) (n c : Nat) (A' : Option Addr) (n' c' : Nat) (hJ : JAt w w.heap.size a (cells6 k m e s A n c A' n' c')) (t : TypeId) :
    ValsAt (w.alloc (.cells #[.int .i64 k, .int .i64 m, .int .i64 e, .string s, .slice A n c, .slice A' n' c'] t)) (w.alloc (.cells #[.int .i64 k, .int .i64 m, .int .i64 e, .string s, .slice A n c, .slice A' n' c'] t)).heap.size (some ⟨w.heap.size, 0, none⟩) 1 [a] := by
  have hB := Box.new (w := w) (cells6 k m e s A n c A' n' c') t rfl
  refine ⟨by simp, by simp, by decide, fun j hj => ?_⟩
  match j, hj with
  | 0, _ => exact ⟨_, 0, _, rfl, by simp, fun i v hv => (by
      rw [show 0 + 0 * 6 + i = i by omega]
      exact hB.cell i v hv), hJ.up (al1 _ _)⟩
structure OpP (w W : World) (cs : List Value) : Prop where
  x : Box W w.heap.size cs
  r : Box W (w.heap.size + 1) zero6
  b : Below w.heap.size w W
theorem OpP.below {w W W' : World} {cs : List Value} (h : OpP w W cs) (hb : Below W.heap.size W W') : OpP w W' cs := ⟨h.x.below hb h.x.lt, h.r.below hb h.r.lt, up h.b hb⟩
theorem OpP.new (w : World) (k m e : Int) (s : ByteArray) (A : Option Addr) (n c : Nat) (A' : Option Addr) (n' c' : Nat) (t t3 : TypeId) :
    OpP w ((w.alloc (.cells #[.int .i64 k, .int .i64 m, .int .i64 e, .string s, .slice A n c, .slice A' n' c'] t)).alloc (.cells #[.int .i64 0, .int .i64 0, .int .i64 0, .string ⟨#[]⟩, .slice none 0 0, .slice none 0 0] t3))
      (cells6 k m e s A n c A' n' c') :=
  ⟨(Box.new (cells6 k m e s A n c A' n' c') t rfl).alloc _, Box.new zero6 t3 (by simp), al2 _ _ _⟩
set_option maxRecDepth 100000 in
set_option maxHeartbeats 4000000 in
theorem plain_length (a : JV) (w : World) (cs : List Value) (hG : GlobW w) (hJ : JAt w w.heap.size a cs) (ha : rightJ a = 0) (t : JV) (er : Int) (hz : er = 0 → sizeJ t ≤ 1000000)
    (hc : ∀ W, Below w.heap.size w W → Calls Tryz.prog 37 #[.agg cs.toArray] W fun r w' => ∃ cs', r = .returned (.tuple #[.agg (List.toArray cs'), .int .i64 er]) ∧ JAt w' w'.heap.size t cs' ∧ Below W.heap.size W w') :
    Calls Tryz.prog 14 #[.string ⟨#[108, 101, 110, 103, 116, 104]⟩, .agg cs.toArray] w fun r w' => OpPost w r w' (doneJ (t, er)) := by
  obtain ⟨k, m, e, s, A, n, c, A', n', c', rfl⟩ := hJ.inn.cells
  have HG := Keep.mk (fun W (hb : Below w.heap.size w W) => hG.below hb)
  have HJ := Keep.mk hJ
  have HBL := Keep.mk (show badL [a] = 0 by show (if rightJ a ≠ 0 then rightJ a else 0) = 0; rw [ha]; rfl)
  have HS := Keep.mk (fun W => calc_plain ⟨#[108, 101, 110, 103, 116, 104]⟩ W)
  rw [show Lib.containsS plainsB ⟨#[108, 101, 110, 103, 116, 104]⟩ = true by decide] at HS
  have HT := Keep.mk (OpP.new w k m e s A n c A' n' c' 27 27)
  have HC := Keep.mk hc
  have HZ := Keep.mk hz
  clear hG hJ ha hc hz
  show Calls _ _ #[.string ⟨#[108, 101, 110, 103, 116, 104]⟩, .agg #[.int .i64 k, .int .i64 m, .int .i64 e, .string s, .slice A n c, .slice A' n' c']] w _
  go_enter Tryz.func14, Tryz.ntmps14
  go_wp2_with fail
  refine calls_world (fun W => OpP w W (cells6 k m e s A n c A' n' c')) HT.out ?_
  clear HT
  rintro W0 HT
  refine (HS.out W0).mono ?_
  rintro r w1 ⟨rfl, hb1⟩
  replace HT := Keep.mk (HT.below hb1)
  clear hb1 HS
  have x0 := HT.out.x.cell 0 _ rfl
  have x1 := HT.out.x.cell 1 _ rfl
  have x2 := HT.out.x.cell 2 _ rfl
  have x3 := HT.out.x.cell 3 _ rfl
  have x4 := HT.out.x.cell 4 _ rfl
  have x5 := HT.out.x.cell 5 _ rfl
  have xl := HT.out.x.lt
  have HV := Keep.mk (one_valC w1 a k m e s A n c A' n' c' (HJ.out.up HT.out.b) 27)
  go_wp2_with fail
  refine (calc_right [a] _ 1 _ (HG.out _ (up HT.out.b (al1 _ _))).weak HV.out).mono ?_
  rw [HBL.out]
  rintro r w2 ⟨rfl, hb2⟩
  replace HT := Keep.mk (HT.out.below (up (al1 _ _) hb2))
  clear hb2 HBL HV HJ
  clear x0 x1 x2 x3 x4 x5 xl
  have x0 := HT.out.x.cell 0 _ rfl
  have x1 := HT.out.x.cell 1 _ rfl
  have x2 := HT.out.x.cell 2 _ rfl
  have x3 := HT.out.x.cell 3 _ rfl
  have x4 := HT.out.x.cell 4 _ rfl
  have x5 := HT.out.x.cell 5 _ rfl
  have xl := HT.out.x.lt
  go_wp2_with fail
  refine (HC.out w2 HT.out.b).mono ?_
  rintro r w3 ⟨cs', hr, hj, hb3⟩
  obtain ⟨k9, m9, e9, s9, A9, n9, c9, A8, n8, c8, rfl⟩ := hj.inn.cells
  have hr : r = .returned (.tuple #[.agg #[.int .i64 k9, .int .i64 m9, .int .i64 e9, .string s9, .slice A9 n9 c9, .slice A8 n8 c8], .int .i64 er]) := hr
  subst hr
  replace HT := Keep.mk (HT.out.below hb3)
  have HD := Keep.mk (calc_done t er HZ.out w3 _ (HG.out w3 HT.out.b) hj)
  clear hb3 hj HG HZ HC
  clear x0 x1 x2 x3 x4 x5 xl
  go_wp2_with fail
  refine HD.out.mono ?_
  obtain ⟨e7, he7⟩ : ∃ e7 : Int, (doneJ (t, er)).2 = e7 := ⟨_, rfl⟩
  rw [he7]
  have HE7 := Keep.mk he7
  clear he7 HD
  rintro r w4 ⟨cs', hr, hj, hb4⟩
  obtain ⟨k6, m6, e6, s6, A6, n6, c6, A5, n5, c5, rfl⟩ := hj.cells
  have hr : r = .returned (.tuple #[.agg #[.int .i64 k6, .int .i64 m6, .int .i64 e6, .string s6, .slice A6 n6 c6, .slice A5 n5 c5], .int .i64 e7]) := hr
  subst hr
  have hr3 := HT.out.r.lt
  have HT4 := Keep.mk (HT.out.below hb4)
  have HW3 := Keep.mk HT.out.b.size
  have HJ4 := Keep.mk hj
  clear hb4 hj HT
  have r0 := HT4.out.r.cell 0 _ rfl
  have f0 := HT4.out.r.froz 0
  have r1 := HT4.out.r.cell 1 _ rfl
  have f1 := HT4.out.r.froz 1
  have r2 := HT4.out.r.cell 2 _ rfl
  have f2 := HT4.out.r.froz 2
  have r3 := HT4.out.r.cell 3 _ rfl
  have f3 := HT4.out.r.froz 3
  have r4 := HT4.out.r.cell 4 _ rfl
  have f4 := HT4.out.r.froz 4
  have r5 := HT4.out.r.cell 5 _ rfl
  have f5 := HT4.out.r.froz 5
  have rl := HT4.out.r.lt
  go_wp2
  refine bodyPost_ret (v := .tuple #[.agg #[.int .i64 k6, .int .i64 m6, .int .i64 e6, .string s6, .slice A6 n6 c6, .slice A5 n5 c5], .int .i64 e7]) ?_ rfl ?_
  · simp [results, Tryz.results14, go_sem, r0, r1, r2, r3, r4, r5]
  · have hsz := six_size w4 (w.heap.size + 1) (.int .i64 k6) (.int .i64 m6) (.int .i64 e6) (.string s6) (.slice A6 n6 c6) (.slice A5 n5 c5)
    refine ⟨_, by rw [HE7.out]; rfl, (six_in (g := w.heap.size + 1) (.int .i64 k6) (.int .i64 m6) (.int .i64 e6) (.string s6) (.slice A6 n6 c6) (.slice A5 n5 c5) HJ4.out (fun h => by have := h.1; omega)).more (fun g hg => ⟨Nat.le_trans HW3.out hg.1, ?_⟩), HT4.out.b.trans (six_below w4 (w.heap.size + 1) (.int .i64 k6) (.int .i64 m6) (.int .i64 e6) (.string s6) (.slice A6 n6 c6) (.slice A5 n5 c5) (by omega))⟩
    show g < (six w4 (w.heap.size + 1) (.int .i64 k6) (.int .i64 m6) (.int .i64 e6) (.string s6) (.slice A6 n6 c6) (.slice A5 n5 c5)).heap.size
    rw [hsz]; exact hg.2
set_option maxRecDepth 100000 in
set_option maxHeartbeats 4000000 in
theorem with_join (a b : JV) (l : List JV) (gap : ByteArray) (w : World) (A : Option Addr) (n c : Nat) (_hn : n = l.length) (_ha0 : a = listV l) (_hb0 : b = textV gap) (hG : GlobW w) (hJ : JAt w w.heap.size a (cells6 5 0 0 ⟨#[]⟩ A n c none 0 0)) (hJ2 : JAt w w.heap.size b (cells6 4 0 0 gap none 0 0 none 0 0)) (ha : rightJ a = 0) (hb : rightJ b = 0) (t : JV) (er : Int) (hz : er = 0 → sizeJ t ≤ 1000000)
    (hc : ∀ W, Below w.heap.size w W → Calls Tryz.prog 51 #[.slice A n c, .string gap] W fun r w' => ∃ cs', r = .returned (.tuple #[.agg (List.toArray cs'), .int .i64 er]) ∧ JAt w' w'.heap.size t cs' ∧ Below W.heap.size W w') :
    Calls Tryz.prog 16 #[.string ⟨#[106, 111, 105, 110]⟩, .agg #[.int .i64 5, .int .i64 0, .int .i64 0, .string ⟨#[]⟩, .slice A n c, .slice none 0 0], .agg #[.int .i64 4, .int .i64 0, .int .i64 0, .string gap, .slice none 0 0, .slice none 0 0]] w fun r w' => OpPost w r w' (doneJ (t, er)) := by
  have HG := Keep.mk (fun W (hb : Below w.heap.size w W) => hG.below hb)
  have HJ := Keep.mk hJ
  have HJ2 := Keep.mk hJ2
  have HBL := Keep.mk (show badL [a, b] = 0 by show (if rightJ a ≠ 0 then rightJ a else if rightJ b ≠ 0 then rightJ b else 0) = 0; rw [ha, hb]; rfl)
  have HT := Keep.mk (OpS.new w 5 0 0 ⟨#[]⟩ A n c none 0 0 4 0 0 gap none 0 0 none 0 0 27 27 27)
  have HC := Keep.mk hc
  have HZ := Keep.mk hz
  clear hG hJ hJ2 ha hb hc hz _hn _ha0 _hb0
  go_enter Tryz.func16, Tryz.ntmps16
  go_upto_region 1 with fail
  refine wp_world (fun W => OpS w W (cells6 5 0 0 ⟨#[]⟩ A n c none 0 0) (cells6 4 0 0 gap none 0 0 none 0 0)) HT.out ?_
  clear HT
  rintro w1 HT
  replace HT := Keep.mk HT
  have x0 := HT.out.x.cell 0 _ rfl
  have x1 := HT.out.x.cell 1 _ rfl
  have x2 := HT.out.x.cell 2 _ rfl
  have x3 := HT.out.x.cell 3 _ rfl
  have x4 := HT.out.x.cell 4 _ rfl
  have x5 := HT.out.x.cell 5 _ rfl
  have xl := HT.out.x.lt
  have y0 := HT.out.y.cell 0 _ rfl
  have y1 := HT.out.y.cell 1 _ rfl
  have y2 := HT.out.y.cell 2 _ rfl
  have y3 := HT.out.y.cell 3 _ rfl
  have y4 := HT.out.y.cell 4 _ rfl
  have y5 := HT.out.y.cell 5 _ rfl
  have yl := HT.out.y.lt
  have HV := Keep.mk (two_vals w1 a b 5 0 0 ⟨#[]⟩ A n c none 0 0 4 0 0 gap none 0 0 none 0 0 (HJ.out.up HT.out.b) (HJ2.out.up HT.out.b) 27)
  go_wp2_with fail
  refine (calc_right [a, b] _ 2 _ (HG.out _ (up HT.out.b (al1 _ _))).weak HV.out).mono ?_
  rw [HBL.out]
  rintro r w2 ⟨rfl, hb2⟩
  replace HT := Keep.mk (HT.out.below (up (al1 _ _) hb2))
  clear hb2 HBL HV HJ HJ2
  clear x0 x1 x2 x3 x4 x5 y0 y1 y2 y3 y4 y5 xl yl
  have x0 := HT.out.x.cell 0 _ rfl
  have x1 := HT.out.x.cell 1 _ rfl
  have x2 := HT.out.x.cell 2 _ rfl
  have x3 := HT.out.x.cell 3 _ rfl
  have x4 := HT.out.x.cell 4 _ rfl
  have x5 := HT.out.x.cell 5 _ rfl
  have xl := HT.out.x.lt
  have y0 := HT.out.y.cell 0 _ rfl
  have y1 := HT.out.y.cell 1 _ rfl
  have y2 := HT.out.y.cell 2 _ rfl
  have y3 := HT.out.y.cell 3 _ rfl
  have y4 := HT.out.y.cell 4 _ rfl
  have y5 := HT.out.y.cell 5 _ rfl
  have yl := HT.out.y.lt
  go_wp2_with fail
  refine (HC.out w2 HT.out.b).mono ?_
  rintro r w3 ⟨cs', hr, hj, hb3⟩
  obtain ⟨k9, m9, e9, s9, A9, n9, c9, A8, n8, c8, rfl⟩ := hj.inn.cells
  have hr : r = .returned (.tuple #[.agg #[.int .i64 k9, .int .i64 m9, .int .i64 e9, .string s9, .slice A9 n9 c9, .slice A8 n8 c8], .int .i64 er]) := hr
  subst hr
  replace HT := Keep.mk (HT.out.below hb3)
  have HD := Keep.mk (calc_done t er HZ.out w3 _ (HG.out w3 HT.out.b) hj)
  clear hb3 hj HG HZ HC
  clear x0 x1 x2 x3 x4 x5 y0 y1 y2 y3 y4 y5 xl yl
  go_wp2_with fail
  refine HD.out.mono ?_
  obtain ⟨e7, he7⟩ : ∃ e7 : Int, (doneJ (t, er)).2 = e7 := ⟨_, rfl⟩
  rw [he7]
  have HE7 := Keep.mk he7
  clear he7 HD
  rintro r w4 ⟨cs', hr, hj, hb4⟩
  obtain ⟨k6, m6, e6, s6, A6, n6, c6, A5, n5, c5, rfl⟩ := hj.cells
  have hr : r = .returned (.tuple #[.agg #[.int .i64 k6, .int .i64 m6, .int .i64 e6, .string s6, .slice A6 n6 c6, .slice A5 n5 c5], .int .i64 e7]) := hr
  subst hr
  have hr3 := HT.out.r.lt
  have HT4 := Keep.mk (HT.out.below hb4)
  have HW3 := Keep.mk HT.out.b.size
  have HJ4 := Keep.mk hj
  clear hb4 hj HT
  have r0 := HT4.out.r.cell 0 _ rfl
  have f0 := HT4.out.r.froz 0
  have r1 := HT4.out.r.cell 1 _ rfl
  have f1 := HT4.out.r.froz 1
  have r2 := HT4.out.r.cell 2 _ rfl
  have f2 := HT4.out.r.froz 2
  have r3 := HT4.out.r.cell 3 _ rfl
  have f3 := HT4.out.r.froz 3
  have r4 := HT4.out.r.cell 4 _ rfl
  have f4 := HT4.out.r.froz 4
  have r5 := HT4.out.r.cell 5 _ rfl
  have f5 := HT4.out.r.froz 5
  have rl := HT4.out.r.lt
  go_wp2
  refine bodyPost_ret (v := .tuple #[.agg #[.int .i64 k6, .int .i64 m6, .int .i64 e6, .string s6, .slice A6 n6 c6, .slice A5 n5 c5], .int .i64 e7]) ?_ rfl ?_
  · simp [results, Tryz.results16, go_sem, r0, r1, r2, r3, r4, r5]
  · have hsz := six_size w4 (w.heap.size + 2) (.int .i64 k6) (.int .i64 m6) (.int .i64 e6) (.string s6) (.slice A6 n6 c6) (.slice A5 n5 c5)
    refine ⟨_, by rw [HE7.out]; rfl, (six_in (g := w.heap.size + 2) (.int .i64 k6) (.int .i64 m6) (.int .i64 e6) (.string s6) (.slice A6 n6 c6) (.slice A5 n5 c5) HJ4.out (fun h => by have := h.1; omega)).more (fun g hg => ⟨Nat.le_trans HW3.out hg.1, ?_⟩), HT4.out.b.trans (six_below w4 (w.heap.size + 2) (.int .i64 k6) (.int .i64 m6) (.int .i64 e6) (.string s6) (.slice A6 n6 c6) (.slice A5 n5 c5) (by omega))⟩
    show g < (six w4 (w.heap.size + 2) (.int .i64 k6) (.int .i64 m6) (.int .i64 e6) (.string s6) (.slice A6 n6 c6) (.slice A5 n5 c5)).heap.size
    rw [hsz]; exact hg.2
end Go.Proofs.YtnkokhpadcgfbaaGreatDoor
