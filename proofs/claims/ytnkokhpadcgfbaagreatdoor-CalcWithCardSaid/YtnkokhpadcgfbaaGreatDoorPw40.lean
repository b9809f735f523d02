/- Lemmas and contracts for the laws CalcWith, part 40 of 50: CalcP, PartsMath. Conditions: those that each lemma names. -/
import Derived.Test.YtnkokhpadcgfbaaGreatDoorPw39
import Derived.Shelf.Unicode.DecodeLastEight
import Derived.Lib.SplitLaws
namespace Go.Proofs.YtnkokhpadcgfbaaGreatDoor
open Go Go.RowKit Go.Proofs Th
attribute [local go_sem] Above.cell
set_option maxRecDepth 100000 in
set_option maxHeartbeats 4000000 in
theorem oper_add (a b : JV) (w : World) (cs cs2 : List Value) (hG : GlobW w) (hJ : JAt w w.heap.size a cs) (hJ2 : JAt w w.heap.size b cs2) (ha : rightJ a = 0) (hb : rightJ b = 0) (t : JV) (er : Int) (hz : er = 0 → sizeJ t ≤ 1000000)
    (hc : ∀ W, Below w.heap.size w W → Calls Tryz.prog 24 #[.agg cs.toArray, .agg cs2.toArray] W fun r w' => ∃ cs', r = .returned (.tuple #[.agg (List.toArray cs'), .int .i64 er]) ∧ JAt w' w'.heap.size t cs' ∧ Below W.heap.size W w') :
    Calls Tryz.prog 10 #[.string ⟨#[43]⟩, .agg cs.toArray, .agg cs2.toArray] w fun r w' => OpPost w r w' (doneJ (t, er)) := by
  obtain ⟨k, m, e, s, A, n, c, A', n', c', rfl⟩ := hJ.inn.cells
  obtain ⟨k2, m2, e2, s2, B, n2, d, B', n2', d', rfl⟩ := hJ2.inn.cells
  have HG := Keep.mk (fun W (hb : Below w.heap.size w W) => hG.below hb)
  have HJ := Keep.mk hJ
  have HJ2 := Keep.mk hJ2
  have HRA := Keep.mk ha
  have HRB := Keep.mk hb
  have HBL := Keep.mk (show badL [a, b] = 0 by show (if rightJ a ≠ 0 then rightJ a else if rightJ b ≠ 0 then rightJ b else 0) = 0; rw [ha, hb]; rfl)
  have HS := Keep.mk (fun W => calc_sign ⟨#[43]⟩ W)
  rw [show Lib.containsS signsB ⟨#[43]⟩ = true by decide] at HS
  have HT := Keep.mk (OpS.new w k m e s A n c A' n' c' k2 m2 e2 s2 B n2 d B' n2' d' 27 27 27)
  clear hG hJ hJ2 ha hb
  have HC := Keep.mk hc
  have HZ := Keep.mk hz
  clear hc hz
  show Calls _ _ #[.string ⟨#[43]⟩, .agg #[.int .i64 k, .int .i64 m, .int .i64 e, .string s, .slice A n c, .slice A' n' c'], .agg #[.int .i64 k2, .int .i64 m2, .int .i64 e2, .string s2, .slice B n2 d, .slice B' n2' d']] w _
  go_enter Tryz.func10, Tryz.ntmps10
  go_wp2_with fail
  refine calls_world (fun W => OpS w W (cells6 k m e s A n c A' n' c') (cells6 k2 m2 e2 s2 B n2 d B' n2' d')) HT.out ?_
  clear HT
  rintro W0 HT
  refine (HS.out W0).mono ?_
  rintro r w1 ⟨rfl, hb1⟩
  replace HT := Keep.mk (HT.below hb1)
  clear hb1 HS
  have x0 := HT.out.x.cell 0 _ rfl
  have x1 := HT.out.x.cell 1 _ rfl
  have x2 := HT.out.x.cell 2 _ rfl
  have x3 := HT.out.x.cell 3 _ rfl
  have x4 := HT.out.x.cell 4 _ rfl
  have x5 := HT.out.x.cell 5 _ rfl
  have xl := HT.out.x.lt
  have y0 := HT.out.y.cell 0 _ rfl
  have y1 := HT.out.y.cell 1 _ rfl
  have y2 := HT.out.y.cell 2 _ rfl
  have y3 := HT.out.y.cell 3 _ rfl
  have y4 := HT.out.y.cell 4 _ rfl
  have y5 := HT.out.y.cell 5 _ rfl
  have yl := HT.out.y.lt
  have HV := Keep.mk (two_vals w1 a b k m e s A n c A' n' c' k2 m2 e2 s2 B n2 d B' n2' d' (HJ.out.up HT.out.b) (HJ2.out.up HT.out.b) 27)
  go_wp2_with fail
  refine (calc_right [a, b] _ 2 _ (HG.out _ (up HT.out.b (al1 _ _))).weak HV.out).mono ?_
  rw [HBL.out]
  rintro r w2 ⟨rfl, hb2⟩
  replace HT := Keep.mk (HT.out.below (up (al1 _ _) hb2))
  clear hb2 HBL HV
  clear x0 x1 x2 x3 x4 x5 y0 y1 y2 y3 y4 y5 xl yl
  have x0 := HT.out.x.cell 0 _ rfl
  have x1 := HT.out.x.cell 1 _ rfl
  have x2 := HT.out.x.cell 2 _ rfl
  have x3 := HT.out.x.cell 3 _ rfl
  have x4 := HT.out.x.cell 4 _ rfl
  have x5 := HT.out.x.cell 5 _ rfl
  have xl := HT.out.x.lt
  have y0 := HT.out.y.cell 0 _ rfl
  have y1 := HT.out.y.cell 1 _ rfl
  have y2 := HT.out.y.cell 2 _ rfl
  have y3 := HT.out.y.cell 3 _ rfl
  have y4 := HT.out.y.cell 4 _ rfl
  have y5 := HT.out.y.cell 5 _ rfl
  have yl := HT.out.y.lt
  go_wp2_with fail
  refine (HC.out w2 HT.out.b).mono ?_
  rintro r w3 ⟨cs', hr, hj, hb3⟩
  obtain ⟨k9, m9, e9, s9, A9, n9, c9, A8, n8, c8, rfl⟩ := hj.inn.cells
  have hr : r = .returned (.tuple #[.agg #[.int .i64 k9, .int .i64 m9, .int .i64 e9, .string s9, .slice A9 n9 c9, .slice A8 n8 c8], .int .i64 er]) := hr
  subst hr
  replace HT := Keep.mk (HT.out.below hb3)
  have HD := Keep.mk (calc_done t er HZ.out w3 _ (HG.out w3 HT.out.b) hj)
  clear hb3 hj HRA HRB HJ HJ2 HG HZ HC
  clear x0 x1 x2 x3 x4 x5 y0 y1 y2 y3 y4 y5 xl yl
  go_wp2_with fail
  refine HD.out.mono ?_
  obtain ⟨e7, he7⟩ : ∃ e7 : Int, (doneJ (t, er)).2 = e7 := ⟨_, rfl⟩
  rw [he7]
  have HE7 := Keep.mk he7
  clear he7 HD
  rintro r w4 ⟨cs', hr, hj, hb4⟩
  obtain ⟨k6, m6, e6, s6, A6, n6, c6, A5, n5, c5, rfl⟩ := hj.cells
  have hr : r = .returned (.tuple #[.agg #[.int .i64 k6, .int .i64 m6, .int .i64 e6, .string s6, .slice A6 n6 c6, .slice A5 n5 c5], .int .i64 e7]) := hr
  subst hr
  have hr3 := HT.out.r.lt
  have HT4 := Keep.mk (HT.out.below hb4)
  have HW3 := Keep.mk HT.out.b.size
  have HJ4 := Keep.mk hj
  clear hb4 hj HT
  have r0 := HT4.out.r.cell 0 _ rfl
  have f0 := HT4.out.r.froz 0
  have r1 := HT4.out.r.cell 1 _ rfl
  have f1 := HT4.out.r.froz 1
  have r2 := HT4.out.r.cell 2 _ rfl
  have f2 := HT4.out.r.froz 2
  have r3 := HT4.out.r.cell 3 _ rfl
  have f3 := HT4.out.r.froz 3
  have r4 := HT4.out.r.cell 4 _ rfl
  have f4 := HT4.out.r.froz 4
  have r5 := HT4.out.r.cell 5 _ rfl
  have f5 := HT4.out.r.froz 5
  have rl := HT4.out.r.lt
  go_wp2
  refine bodyPost_ret (v := .tuple #[.agg #[.int .i64 k6, .int .i64 m6, .int .i64 e6, .string s6, .slice A6 n6 c6, .slice A5 n5 c5], .int .i64 e7]) ?_ rfl ?_
  · simp [results, Tryz.results10, go_sem, r0, r1, r2, r3, r4, r5]
  · have hsz := six_size w4 (w.heap.size + 2) (.int .i64 k6) (.int .i64 m6) (.int .i64 e6) (.string s6) (.slice A6 n6 c6) (.slice A5 n5 c5)
    refine ⟨_, by rw [HE7.out]; rfl, (six_in (g := w.heap.size + 2) (.int .i64 k6) (.int .i64 m6) (.int .i64 e6) (.string s6) (.slice A6 n6 c6) (.slice A5 n5 c5) HJ4.out (fun h => by have := h.1; omega)).more (fun g hg => ⟨Nat.le_trans HW3.out hg.1, ?_⟩), HT4.out.b.trans (six_below w4 (w.heap.size + 2) (.int .i64 k6) (.int .i64 m6) (.int .i64 e6) (.string s6) (.slice A6 n6 c6) (.slice A5 n5 c5) (by omega))⟩
    show g < (six w4 (w.heap.size + 2) (.int .i64 k6) (.int .i64 m6) (.int .i64 e6) (.string s6) (.slice A6 n6 c6) (.slice A5 n5 c5)).heap.size
    rw [hsz]; exact hg.2
set_option maxRecDepth 100000 in
set_option maxHeartbeats 4000000 in
theorem oper_less (a b : JV) (w : World) (cs cs2 : List Value) (hG : GlobW w) (hJ : JAt w w.heap.size a cs) (hJ2 : JAt w w.heap.size b cs2) (ha : rightJ a = 0) (hb : rightJ b = 0) (t : JV) (er : Int) (hz : er = 0 → sizeJ t ≤ 1000000)
    (hc : ∀ W, Below w.heap.size w W → Calls Tryz.prog 25 #[.agg cs.toArray, .agg cs2.toArray] W fun r w' => ∃ cs', r = .returned (.tuple #[.agg (List.toArray cs'), .int .i64 er]) ∧ JAt w' w'.heap.size t cs' ∧ Below W.heap.size W w') :
    Calls Tryz.prog 10 #[.string ⟨#[45]⟩, .agg cs.toArray, .agg cs2.toArray] w fun r w' => OpPost w r w' (doneJ (t, er)) := by
  obtain ⟨k, m, e, s, A, n, c, A', n', c', rfl⟩ := hJ.inn.cells
  obtain ⟨k2, m2, e2, s2, B, n2, d, B', n2', d', rfl⟩ := hJ2.inn.cells
  have HG := Keep.mk (fun W (hb : Below w.heap.size w W) => hG.below hb)
  have HJ := Keep.mk hJ
  have HJ2 := Keep.mk hJ2
  have HRA := Keep.mk ha
  have HRB := Keep.mk hb
  have HBL := Keep.mk (show badL [a, b] = 0 by show (if rightJ a ≠ 0 then rightJ a else if rightJ b ≠ 0 then rightJ b else 0) = 0; rw [ha, hb]; rfl)
  have HS := Keep.mk (fun W => calc_sign ⟨#[45]⟩ W)
  rw [show Lib.containsS signsB ⟨#[45]⟩ = true by decide] at HS
  have HT := Keep.mk (OpS.new w k m e s A n c A' n' c' k2 m2 e2 s2 B n2 d B' n2' d' 27 27 27)
  clear hG hJ hJ2 ha hb
  have HC := Keep.mk hc
  have HZ := Keep.mk hz
  clear hc hz
  show Calls _ _ #[.string ⟨#[45]⟩, .agg #[.int .i64 k, .int .i64 m, .int .i64 e, .string s, .slice A n c, .slice A' n' c'], .agg #[.int .i64 k2, .int .i64 m2, .int .i64 e2, .string s2, .slice B n2 d, .slice B' n2' d']] w _
  go_enter Tryz.func10, Tryz.ntmps10
  go_wp2_with fail
  refine calls_world (fun W => OpS w W (cells6 k m e s A n c A' n' c') (cells6 k2 m2 e2 s2 B n2 d B' n2' d')) HT.out ?_
  clear HT
  rintro W0 HT
  refine (HS.out W0).mono ?_
  rintro r w1 ⟨rfl, hb1⟩
  replace HT := Keep.mk (HT.below hb1)
  clear hb1 HS
  have x0 := HT.out.x.cell 0 _ rfl
  have x1 := HT.out.x.cell 1 _ rfl
  have x2 := HT.out.x.cell 2 _ rfl
  have x3 := HT.out.x.cell 3 _ rfl
  have x4 := HT.out.x.cell 4 _ rfl
  have x5 := HT.out.x.cell 5 _ rfl
  have xl := HT.out.x.lt
  have y0 := HT.out.y.cell 0 _ rfl
  have y1 := HT.out.y.cell 1 _ rfl
  have y2 := HT.out.y.cell 2 _ rfl
  have y3 := HT.out.y.cell 3 _ rfl
  have y4 := HT.out.y.cell 4 _ rfl
  have y5 := HT.out.y.cell 5 _ rfl
  have yl := HT.out.y.lt
  have HV := Keep.mk (two_vals w1 a b k m e s A n c A' n' c' k2 m2 e2 s2 B n2 d B' n2' d' (HJ.out.up HT.out.b) (HJ2.out.up HT.out.b) 27)
  go_wp2_with fail
  refine (calc_right [a, b] _ 2 _ (HG.out _ (up HT.out.b (al1 _ _))).weak HV.out).mono ?_
  rw [HBL.out]
  rintro r w2 ⟨rfl, hb2⟩
  replace HT := Keep.mk (HT.out.below (up (al1 _ _) hb2))
  clear hb2 HBL HV
  clear x0 x1 x2 x3 x4 x5 y0 y1 y2 y3 y4 y5 xl yl
  have x0 := HT.out.x.cell 0 _ rfl
  have x1 := HT.out.x.cell 1 _ rfl
  have x2 := HT.out.x.cell 2 _ rfl
  have x3 := HT.out.x.cell 3 _ rfl
  have x4 := HT.out.x.cell 4 _ rfl
  have x5 := HT.out.x.cell 5 _ rfl
  have xl := HT.out.x.lt
  have y0 := HT.out.y.cell 0 _ rfl
  have y1 := HT.out.y.cell 1 _ rfl
  have y2 := HT.out.y.cell 2 _ rfl
  have y3 := HT.out.y.cell 3 _ rfl
  have y4 := HT.out.y.cell 4 _ rfl
  have y5 := HT.out.y.cell 5 _ rfl
  have yl := HT.out.y.lt
  go_wp2_with fail
  refine (HC.out w2 HT.out.b).mono ?_
  rintro r w3 ⟨cs', hr, hj, hb3⟩
  obtain ⟨k9, m9, e9, s9, A9, n9, c9, A8, n8, c8, rfl⟩ := hj.inn.cells
  have hr : r = .returned (.tuple #[.agg #[.int .i64 k9, .int .i64 m9, .int .i64 e9, .string s9, .slice A9 n9 c9, .slice A8 n8 c8], .int .i64 er]) := hr
  subst hr
  replace HT := Keep.mk (HT.out.below hb3)
  have HD := Keep.mk (calc_done t er HZ.out w3 _ (HG.out w3 HT.out.b) hj)
  clear hb3 hj HRA HRB HJ HJ2 HG HZ HC
  clear x0 x1 x2 x3 x4 x5 y0 y1 y2 y3 y4 y5 xl yl
  go_wp2_with fail
  refine HD.out.mono ?_
  obtain ⟨e7, he7⟩ : ∃ e7 : Int, (doneJ (t, er)).2 = e7 := ⟨_, rfl⟩
  rw [he7]
  have HE7 := Keep.mk he7
  clear he7 HD
  rintro r w4 ⟨cs', hr, hj, hb4⟩
  obtain ⟨k6, m6, e6, s6, A6, n6, c6, A5, n5, c5, rfl⟩ := hj.cells
  have hr : r = .returned (.tuple #[.agg #[.int .i64 k6, .int .i64 m6, .int .i64 e6, .string s6, .slice A6 n6 c6, .slice A5 n5 c5], .int .i64 e7]) := hr
  subst hr
  have hr3 := HT.out.r.lt
  have HT4 := Keep.mk (HT.out.below hb4)
  have HW3 := Keep.mk HT.out.b.size
  have HJ4 := Keep.mk hj
  clear hb4 hj HT
  have r0 := HT4.out.r.cell 0 _ rfl
  have f0 := HT4.out.r.froz 0
  have r1 := HT4.out.r.cell 1 _ rfl
  have f1 := HT4.out.r.froz 1
  have r2 := HT4.out.r.cell 2 _ rfl
  have f2 := HT4.out.r.froz 2
  have r3 := HT4.out.r.cell 3 _ rfl
  have f3 := HT4.out.r.froz 3
  have r4 := HT4.out.r.cell 4 _ rfl
  have f4 := HT4.out.r.froz 4
  have r5 := HT4.out.r.cell 5 _ rfl
  have f5 := HT4.out.r.froz 5
  have rl := HT4.out.r.lt
  go_wp2
  refine bodyPost_ret (v := .tuple #[.agg #[.int .i64 k6, .int .i64 m6, .int .i64 e6, .string s6, .slice A6 n6 c6, .slice A5 n5 c5], .int .i64 e7]) ?_ rfl ?_
  · simp [results, Tryz.results10, go_sem, r0, r1, r2, r3, r4, r5]
  · have hsz := six_size w4 (w.heap.size + 2) (.int .i64 k6) (.int .i64 m6) (.int .i64 e6) (.string s6) (.slice A6 n6 c6) (.slice A5 n5 c5)
    refine ⟨_, by rw [HE7.out]; rfl, (six_in (g := w.heap.size + 2) (.int .i64 k6) (.int .i64 m6) (.int .i64 e6) (.string s6) (.slice A6 n6 c6) (.slice A5 n5 c5) HJ4.out (fun h => by have := h.1; omega)).more (fun g hg => ⟨Nat.le_trans HW3.out hg.1, ?_⟩), HT4.out.b.trans (six_below w4 (w.heap.size + 2) (.int .i64 k6) (.int .i64 m6) (.int .i64 e6) (.string s6) (.slice A6 n6 c6) (.slice A5 n5 c5) (by omega))⟩
    show g < (six w4 (w.heap.size + 2) (.int .i64 k6) (.int .i64 m6) (.int .i64 e6) (.string s6) (.slice A6 n6 c6) (.slice A5 n5 c5)).heap.size
    rw [hsz]; exact hg.2
set_option maxRecDepth 100000 in
set_option maxHeartbeats 4000000 in
theorem oper_part (a b : JV) (w : World) (cs cs2 : List Value) (hG : GlobW w) (hJ : JAt w w.heap.size a cs) (hJ2 : JAt w w.heap.size b cs2) (ha : rightJ a = 0) (hb : rightJ b = 0) (t : JV) (er : Int) (hz : er = 0 → sizeJ t ≤ 1000000)
    (hc : ∀ W, Below w.heap.size w W → Calls Tryz.prog 28 #[.agg cs.toArray, .agg cs2.toArray] W fun r w' => ∃ cs', r = .returned (.tuple #[.agg (List.toArray cs'), .int .i64 er]) ∧ JAt w' w'.heap.size t cs' ∧ Below W.heap.size W w') :
    Calls Tryz.prog 10 #[.string ⟨#[47]⟩, .agg cs.toArray, .agg cs2.toArray] w fun r w' => OpPost w r w' (doneJ (t, er)) := by
  obtain ⟨k, m, e, s, A, n, c, A', n', c', rfl⟩ := hJ.inn.cells
  obtain ⟨k2, m2, e2, s2, B, n2, d, B', n2', d', rfl⟩ := hJ2.inn.cells
  have HG := Keep.mk (fun W (hb : Below w.heap.size w W) => hG.below hb)
  have HJ := Keep.mk hJ
  have HJ2 := Keep.mk hJ2
  have HRA := Keep.mk ha
  have HRB := Keep.mk hb
  have HBL := Keep.mk (show badL [a, b] = 0 by show (if rightJ a ≠ 0 then rightJ a else if rightJ b ≠ 0 then rightJ b else 0) = 0; rw [ha, hb]; rfl)
  have HS := Keep.mk (fun W => calc_sign ⟨#[47]⟩ W)
  rw [show Lib.containsS signsB ⟨#[47]⟩ = true by decide] at HS
  have HT := Keep.mk (OpS.new w k m e s A n c A' n' c' k2 m2 e2 s2 B n2 d B' n2' d' 27 27 27)
  clear hG hJ hJ2 ha hb
  have HC := Keep.mk hc
  have HZ := Keep.mk hz
  clear hc hz
  show Calls _ _ #[.string ⟨#[47]⟩, .agg #[.int .i64 k, .int .i64 m, .int .i64 e, .string s, .slice A n c, .slice A' n' c'], .agg #[.int .i64 k2, .int .i64 m2, .int .i64 e2, .string s2, .slice B n2 d, .slice B' n2' d']] w _
  go_enter Tryz.func10, Tryz.ntmps10
  go_wp2_with fail
  refine calls_world (fun W => OpS w W (cells6 k m e s A n c A' n' c') (cells6 k2 m2 e2 s2 B n2 d B' n2' d')) HT.out ?_
  clear HT
  rintro W0 HT
  refine (HS.out W0).mono ?_
  rintro r w1 ⟨rfl, hb1⟩
  replace HT := Keep.mk (HT.below hb1)
  clear hb1 HS
  have x0 := HT.out.x.cell 0 _ rfl
  have x1 := HT.out.x.cell 1 _ rfl
  have x2 := HT.out.x.cell 2 _ rfl
  have x3 := HT.out.x.cell 3 _ rfl
  have x4 := HT.out.x.cell 4 _ rfl
  have x5 := HT.out.x.cell 5 _ rfl
  have xl := HT.out.x.lt
  have y0 := HT.out.y.cell 0 _ rfl
  have y1 := HT.out.y.cell 1 _ rfl
  have y2 := HT.out.y.cell 2 _ rfl
  have y3 := HT.out.y.cell 3 _ rfl
  have y4 := HT.out.y.cell 4 _ rfl
  have y5 := HT.out.y.cell 5 _ rfl
  have yl := HT.out.y.lt
  have HV := Keep.mk (two_vals w1 a b k m e s A n c A' n' c' k2 m2 e2 s2 B n2 d B' n2' d' (HJ.out.up HT.out.b) (HJ2.out.up HT.out.b) 27)
  go_wp2_with fail
  refine (calc_right [a, b] _ 2 _ (HG.out _ (up HT.out.b (al1 _ _))).weak HV.out).mono ?_
  rw [HBL.out]
  rintro r w2 ⟨rfl, hb2⟩
  replace HT := Keep.mk (HT.out.below (up (al1 _ _) hb2))
  clear hb2 HBL HV
  clear x0 x1 x2 x3 x4 x5 y0 y1 y2 y3 y4 y5 xl yl
  have x0 := HT.out.x.cell 0 _ rfl
  have x1 := HT.out.x.cell 1 _ rfl
  have x2 := HT.out.x.cell 2 _ rfl
  have x3 := HT.out.x.cell 3 _ rfl
  have x4 := HT.out.x.cell 4 _ rfl
  have x5 := HT.out.x.cell 5 _ rfl
  have xl := HT.out.x.lt
  have y0 := HT.out.y.cell 0 _ rfl
  have y1 := HT.out.y.cell 1 _ rfl
  have y2 := HT.out.y.cell 2 _ rfl
  have y3 := HT.out.y.cell 3 _ rfl
  have y4 := HT.out.y.cell 4 _ rfl
  have y5 := HT.out.y.cell 5 _ rfl
  have yl := HT.out.y.lt
  go_wp2_with fail
  refine (HC.out w2 HT.out.b).mono ?_
  rintro r w3 ⟨cs', hr, hj, hb3⟩
  obtain ⟨k9, m9, e9, s9, A9, n9, c9, A8, n8, c8, rfl⟩ := hj.inn.cells
  have hr : r = .returned (.tuple #[.agg #[.int .i64 k9, .int .i64 m9, .int .i64 e9, .string s9, .slice A9 n9 c9, .slice A8 n8 c8], .int .i64 er]) := hr
  subst hr
  replace HT := Keep.mk (HT.out.below hb3)
  have HD := Keep.mk (calc_done t er HZ.out w3 _ (HG.out w3 HT.out.b) hj)
  clear hb3 hj HRA HRB HJ HJ2 HG HZ HC
  clear x0 x1 x2 x3 x4 x5 y0 y1 y2 y3 y4 y5 xl yl
  go_wp2_with fail
  refine HD.out.mono ?_
  obtain ⟨e7, he7⟩ : ∃ e7 : Int, (doneJ (t, er)).2 = e7 := ⟨_, rfl⟩
  rw [he7]
  have HE7 := Keep.mk he7
  clear he7 HD
  rintro r w4 ⟨cs', hr, hj, hb4⟩
  obtain ⟨k6, m6, e6, s6, A6, n6, c6, A5, n5, c5, rfl⟩ := hj.cells
  have hr : r = .returned (.tuple #[.agg #[.int .i64 k6, .int .i64 m6, .int .i64 e6, .string s6, .slice A6 n6 c6, .slice A5 n5 c5], .int .i64 e7]) := hr
  subst hr
  have hr3 := HT.out.r.lt
  have HT4 := Keep.mk (HT.out.below hb4)
  have HW3 := Keep.mk HT.out.b.size
  have HJ4 := Keep.mk hj
  clear hb4 hj HT
  have r0 := HT4.out.r.cell 0 _ rfl
  have f0 := HT4.out.r.froz 0
  have r1 := HT4.out.r.cell 1 _ rfl
  have f1 := HT4.out.r.froz 1
  have r2 := HT4.out.r.cell 2 _ rfl
  have f2 := HT4.out.r.froz 2
  have r3 := HT4.out.r.cell 3 _ rfl
  have f3 := HT4.out.r.froz 3
  have r4 := HT4.out.r.cell 4 _ rfl
  have f4 := HT4.out.r.froz 4
  have r5 := HT4.out.r.cell 5 _ rfl
  have f5 := HT4.out.r.froz 5
  have rl := HT4.out.r.lt
  go_wp2
  refine bodyPost_ret (v := .tuple #[.agg #[.int .i64 k6, .int .i64 m6, .int .i64 e6, .string s6, .slice A6 n6 c6, .slice A5 n5 c5], .int .i64 e7]) ?_ rfl ?_
  · simp [results, Tryz.results10, go_sem, r0, r1, r2, r3, r4, r5]
  · have hsz := six_size w4 (w.heap.size + 2) (.int .i64 k6) (.int .i64 m6) (.int .i64 e6) (.string s6) (.slice A6 n6 c6) (.slice A5 n5 c5)
    refine ⟨_, by rw [HE7.out]; rfl, (six_in (g := w.heap.size + 2) (.int .i64 k6) (.int .i64 m6) (.int .i64 e6) (.string s6) (.slice A6 n6 c6) (.slice A5 n5 c5) HJ4.out (fun h => by have := h.1; omega)).more (fun g hg => ⟨Nat.le_trans HW3.out hg.1, ?_⟩), HT4.out.b.trans (six_below w4 (w.heap.size + 2) (.int .i64 k6) (.int .i64 m6) (.int .i64 e6) (.string s6) (.slice A6 n6 c6) (.slice A5 n5 c5) (by omega))⟩
    show g < (six w4 (w.heap.size + 2) (.int .i64 k6) (.int .i64 m6) (.int .i64 e6) (.string s6) (.slice A6 n6 c6) (.slice A5 n5 c5)).heap.size
    rw [hsz]; exact hg.2
end Go.Proofs.YtnkokhpadcgfbaaGreatDoor
namespace Go.Proofs.YtnkokhpadcgfbaaGreatDoor
open Go Go.RowKit Go.Proofs Th
theorem tail_len (sep : List UInt8) : ∀ l : List (List UInt8), (Lib.joinTail sep l).length = l.length * sep.length + (l.map List.length).sum
  | [] => by simp [Lib.joinTail]
  | x :: r => by
    have : Lib.joinTail sep (x :: r) = sep ++ (x ++ Lib.joinTail sep r) := by simp [Lib.joinTail]
    rw [this, List.length_append, List.length_append, tail_len sep r, List.length_cons, List.map_cons, List.sum_cons, Nat.add_mul]
    omega
end Go.Proofs.YtnkokhpadcgfbaaGreatDoor
