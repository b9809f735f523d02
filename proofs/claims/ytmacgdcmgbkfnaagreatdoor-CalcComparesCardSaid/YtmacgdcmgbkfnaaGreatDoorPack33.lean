/- Lemmas and contracts for the laws CalcCompares, part 33 of 33: LawCompares. Conditions: those that each lemma names. -/
import Derived.Test.YtmacgdcmgbkfnaaGreatDoorPack32
namespace Go.Proofs.YtmacgdcmgbkfnaaGreatDoor
open Go Go.RowKit Go.Proofs Th
attribute [local go_sem] Above.cell
set_option maxRecDepth 100000 in
@[local go_sem] theorem idx_0 (w : World) : (Instr.index 31 (.agg #[.string ⟨#[60]⟩, .string ⟨#[61, 61]⟩, .string ⟨#[62]⟩, .string ⟨#[60, 61]⟩, .string ⟨#[33, 61]⟩, .string ⟨#[62, 61]⟩]) (.int .i64 0)).run Tryz.prog w = .ok (.string ⟨#[60]⟩) w := by
  have hu := Tryz.underlying31
  have hz := Tryz.sizeOf9
  have h9 := Tryz.underlying9
  have ha := Tryz.isAgg9
  simp [Instr.index, run_underlying hu, asIntOf, part, go_sem, hz]
set_option maxRecDepth 100000 in
@[local go_sem] theorem idx_1 (w : World) : (Instr.index 31 (.agg #[.string ⟨#[60]⟩, .string ⟨#[61, 61]⟩, .string ⟨#[62]⟩, .string ⟨#[60, 61]⟩, .string ⟨#[33, 61]⟩, .string ⟨#[62, 61]⟩]) (.int .i64 1)).run Tryz.prog w = .ok (.string ⟨#[61, 61]⟩) w := by
  have hu := Tryz.underlying31
  have hz := Tryz.sizeOf9
  have h9 := Tryz.underlying9
  have ha := Tryz.isAgg9
  simp [Instr.index, run_underlying hu, asIntOf, part, go_sem, hz]
set_option maxRecDepth 100000 in
@[local go_sem] theorem idx_2 (w : World) : (Instr.index 31 (.agg #[.string ⟨#[60]⟩, .string ⟨#[61, 61]⟩, .string ⟨#[62]⟩, .string ⟨#[60, 61]⟩, .string ⟨#[33, 61]⟩, .string ⟨#[62, 61]⟩]) (.int .i64 2)).run Tryz.prog w = .ok (.string ⟨#[62]⟩) w := by
  have hu := Tryz.underlying31
  have hz := Tryz.sizeOf9
  have h9 := Tryz.underlying9
  have ha := Tryz.isAgg9
  simp [Instr.index, run_underlying hu, asIntOf, part, go_sem, hz]
set_option maxRecDepth 100000 in
@[local go_sem] theorem idx_3 (w : World) : (Instr.index 31 (.agg #[.string ⟨#[60]⟩, .string ⟨#[61, 61]⟩, .string ⟨#[62]⟩, .string ⟨#[60, 61]⟩, .string ⟨#[33, 61]⟩, .string ⟨#[62, 61]⟩]) (.int .i64 3)).run Tryz.prog w = .ok (.string ⟨#[60, 61]⟩) w := by
  have hu := Tryz.underlying31
  have hz := Tryz.sizeOf9
  have h9 := Tryz.underlying9
  have ha := Tryz.isAgg9
  simp [Instr.index, run_underlying hu, asIntOf, part, go_sem, hz]
set_option maxRecDepth 100000 in
@[local go_sem] theorem idx_4 (w : World) : (Instr.index 31 (.agg #[.string ⟨#[60]⟩, .string ⟨#[61, 61]⟩, .string ⟨#[62]⟩, .string ⟨#[60, 61]⟩, .string ⟨#[33, 61]⟩, .string ⟨#[62, 61]⟩]) (.int .i64 4)).run Tryz.prog w = .ok (.string ⟨#[33, 61]⟩) w := by
  have hu := Tryz.underlying31
  have hz := Tryz.sizeOf9
  have h9 := Tryz.underlying9
  have ha := Tryz.isAgg9
  simp [Instr.index, run_underlying hu, asIntOf, part, go_sem, hz]
set_option maxRecDepth 100000 in
@[local go_sem] theorem idx_5 (w : World) : (Instr.index 31 (.agg #[.string ⟨#[60]⟩, .string ⟨#[61, 61]⟩, .string ⟨#[62]⟩, .string ⟨#[60, 61]⟩, .string ⟨#[33, 61]⟩, .string ⟨#[62, 61]⟩]) (.int .i64 5)).run Tryz.prog w = .ok (.string ⟨#[62, 61]⟩) w := by
  have hu := Tryz.underlying31
  have hz := Tryz.sizeOf9
  have h9 := Tryz.underlying9
  have ha := Tryz.isAgg9
  simp [Instr.index, run_underlying hu, asIntOf, part, go_sem, hz]
set_option maxRecDepth 100000 in
set_option maxHeartbeats 4000000 in
theorem oper_bad (a b : JV) (w : World) (cs cs2 : List Value) (hG : GlobW w) (hJ : JAt w w.heap.size a cs) (hJ2 : JAt w w.heap.size b cs2) (er : Int) (hne : (er == 0) = false) (hbl : badL [a, b] = er) :
    Calls Tryz.prog 8 #[.string ⟨#[60]⟩, .agg cs.toArray, .agg cs2.toArray] w fun r w' => OpPost w r w' (zeroJ, er) := by
  obtain ⟨k, m, e, s, A, n, c, A', n', c', rfl⟩ := hJ.inn.cells
  obtain ⟨k2, m2, e2, s2, B, n2, d, B', n2', d', rfl⟩ := hJ2.inn.cells
  have HG := Keep.mk (fun W (hb : Below w.heap.size w W) => hG.below hb)
  have HJ := Keep.mk hJ
  have HJ2 := Keep.mk hJ2
  have HBL := Keep.mk hbl
  have HS := Keep.mk (fun W => calc_sign ⟨#[60]⟩ W)
  rw [show Lib.containsS signsB ⟨#[60]⟩ = true by decide] at HS
  have HT := Keep.mk (OpS.new w k m e s A n c A' n' c' k2 m2 e2 s2 B n2 d B' n2' d' 27 27 27)
  clear hG hJ hJ2 hbl
  show Calls _ _ #[.string ⟨#[60]⟩, .agg #[.int .i64 k, .int .i64 m, .int .i64 e, .string s, .slice A n c, .slice A' n' c'], .agg #[.int .i64 k2, .int .i64 m2, .int .i64 e2, .string s2, .slice B n2 d, .slice B' n2' d']] w _
  go_enter Tryz.func8, Tryz.ntmps8
  go_wp2_with fail
  refine calls_world (fun W => OpS w W (cells6 k m e s A n c A' n' c') (cells6 k2 m2 e2 s2 B n2 d B' n2' d')) HT.out ?_
  clear HT
  rintro W0 HT
  refine (HS.out W0).mono ?_
  rintro r w1 ⟨rfl, hb1⟩
  replace HT := Keep.mk (HT.below hb1)
  clear hb1 HS
  have x0 := HT.out.x.cell 0 _ rfl
  have x1 := HT.out.x.cell 1 _ rfl
  have x2 := HT.out.x.cell 2 _ rfl
  have x3 := HT.out.x.cell 3 _ rfl
  have x4 := HT.out.x.cell 4 _ rfl
  have x5 := HT.out.x.cell 5 _ rfl
  have xl := HT.out.x.lt
  have y0 := HT.out.y.cell 0 _ rfl
  have y1 := HT.out.y.cell 1 _ rfl
  have y2 := HT.out.y.cell 2 _ rfl
  have y3 := HT.out.y.cell 3 _ rfl
  have y4 := HT.out.y.cell 4 _ rfl
  have y5 := HT.out.y.cell 5 _ rfl
  have yl := HT.out.y.lt
  have HV := Keep.mk (two_vals w1 a b k m e s A n c A' n' c' k2 m2 e2 s2 B n2 d B' n2' d' (HJ.out.up HT.out.b) (HJ2.out.up HT.out.b) 27)
  go_wp2_with fail
  refine (calc_right [a, b] _ 2 _ (HG.out _ (up HT.out.b (al1 _ _))).weak HV.out).mono ?_
  rw [HBL.out]
  rintro r w2 ⟨rfl, hb2⟩
  replace HT := Keep.mk (HT.out.below (up (al1 _ _) hb2))
  clear hb2 HBL HV
  clear x0 x1 x2 x3 x4 x5 y0 y1 y2 y3 y4 y5 xl yl
  have r0 := HT.out.r.cell 0 _ rfl
  have f0 := HT.out.r.froz 0
  have r1 := HT.out.r.cell 1 _ rfl
  have f1 := HT.out.r.froz 1
  have r2 := HT.out.r.cell 2 _ rfl
  have f2 := HT.out.r.froz 2
  have r3 := HT.out.r.cell 3 _ rfl
  have f3 := HT.out.r.froz 3
  have r4 := HT.out.r.cell 4 _ rfl
  have f4 := HT.out.r.froz 4
  have r5 := HT.out.r.cell 5 _ rfl
  have f5 := HT.out.r.froz 5
  have rl := HT.out.r.lt
  go_wp2
  refine bodyPost_ret (v := .tuple #[.agg #[.int .i64 0, .int .i64 0, .int .i64 0, .string ⟨#[]⟩, .slice none 0 0, .slice none 0 0], .int .i64 er]) ?_ rfl ⟨_, rfl, zero_in _ _, HT.out.b.trans (six_below w2 (w.heap.size + 2) (.int .i64 0) (.int .i64 0) (.int .i64 0) (.string ⟨#[]⟩) (.slice none 0 0) (.slice none 0 0) (by omega))⟩
  simp [results, Tryz.results8, go_sem, r0, r1, r2, r3, r4, r5]
theorem badL_two (a b : JV) (h : badL [a, b] ≠ 0) : badL [a, b] = 30 ∨ badL [a, b] = 31 := by
  have h1 : ∀ t, rightJ t = 0 ∨ rightJ t = 30 ∨ rightJ t = 31 := fun t => by
    unfold rightJ; split
    · exact Or.inr (Or.inr rfl)
    · split
      · exact Or.inl rfl
      · exact Or.inr (Or.inl rfl)
  have e : badL [a, b] = if rightJ a ≠ 0 then rightJ a else if rightJ b ≠ 0 then rightJ b else 0 := rfl
  rw [e] at h ⊢
  rcases h1 a with h2 | h2 | h2 <;> rcases h1 b with h3 | h3 | h3 <;> rw [h2, h3] at h ⊢ <;> simp at h ⊢
theorem badL_ok (a b : JV) (h : badL [a, b] = 0) : rightJ a = 0 ∧ rightJ b = 0 := by
  have e : badL [a, b] = if rightJ a ≠ 0 then rightJ a else if rightJ b ≠ 0 then rightJ b else 0 := rfl
  rw [e] at h
  by_cases ha : rightJ a = 0
  · by_cases hb : rightJ b = 0
    · exact ⟨ha, hb⟩
    · rw [if_neg (by simpa using ha), if_pos hb] at h; exact absurd h hb
  · rw [if_pos ha] at h; exact absurd h ha
structure CpS (w W : World) (cs cs2 : List Value) (p : Nat) (bs : List Value) : Prop where
  x : Box W w.heap.size cs
  y : Box W (w.heap.size + 1) cs2
  r : Box W p bs
  gp : w.heap.size + 1 < p
  b : Below w.heap.size w W
theorem CpS.below {w W W' : World} {cs cs2 bs : List Value} {p : Nat} (h : CpS w W cs cs2 p bs) (hb : Below W.heap.size W W') : CpS w W' cs cs2 p bs := ⟨h.x.below hb h.x.lt, h.y.below hb h.y.lt, h.r.below hb h.r.lt, h.gp, up h.b hb⟩
theorem CpS.set {w W : World} {cs cs2 bs : List Value} {p : Nat} (h : CpS w W cs cs2 p bs) (i : Nat) (hi : i < bs.length) (v : Value) : CpS w (W.setCell ⟨p, i, none⟩ v) cs cs2 p (bs.set i v) :=
  ⟨h.x.other (by have := h.gp; omega) v, h.y.other (by have := h.gp; omega) v, h.r.set hi v, h.gp, h.b.trans (below_set (by have := h.gp; omega) v)⟩
set_option maxRecDepth 100000 in
set_option maxHeartbeats 8000000 in
theorem law_compares (a b : JV) (w : World) (cs cs2 : List Value) (hG : GlobW w) (hM : GlobM w) (hJ : JAt w w.heap.size a cs) (hJ2 : JAt w w.heap.size b cs2) :
    Calls Tryz.prog 3 #[.agg cs.toArray, .agg cs2.toArray] w fun r w' => r = .returned (.bool true) ∧ Below w.heap.size w w' := by
  obtain ⟨k, m, e, s, A, n, c, A', n', c', rfl⟩ := hJ.inn.cells
  obtain ⟨k2, m2, e2, s2, B, n2, d, B', n2', d', rfl⟩ := hJ2.inn.cells
  have HG := Keep.mk (fun W (hb : Below w.heap.size w W) => hG.below hb)
  have HM := Keep.mk (fun W (hb : Below w.heap.size w W) => hM.below hb)
  have HJ := Keep.mk hJ
  have HJ2 := Keep.mk hJ2
  have HT := Keep.mk (TwoB.new w k m e s A n c A' n' c' k2 m2 e2 s2 B n2 d B' n2' d' 27 27)
  clear hG hM hJ hJ2
  show Calls _ _ #[.agg #[.int .i64 k, .int .i64 m, .int .i64 e, .string s, .slice A n c, .slice A' n' c'], .agg #[.int .i64 k2, .int .i64 m2, .int .i64 e2, .string s2, .slice B n2 d, .slice B' n2' d']] w _
  go_enter Tryz.func3, Tryz.ntmps3
  go_wp2_with fail
  refine calls_world (fun W => TwoB w W (cells6 k m e s A n c A' n' c') (cells6 k2 m2 e2 s2 B n2 d B' n2' d')) HT.out ?_
  clear HT
  rintro W0 HT
  refine (law12_works W0 (HG.out W0 HT.b) (HM.out W0 HT.b)).mono ?_
  rintro r w1 ⟨rfl, hb1⟩
  replace HT := Keep.mk (HT.below hb1)
  clear hb1 HM
  have x0 := HT.out.x.cell 0 _ rfl
  have x1 := HT.out.x.cell 1 _ rfl
  have x2 := HT.out.x.cell 2 _ rfl
  have x3 := HT.out.x.cell 3 _ rfl
  have x4 := HT.out.x.cell 4 _ rfl
  have x5 := HT.out.x.cell 5 _ rfl
  have xl := HT.out.x.lt
  have y0 := HT.out.y.cell 0 _ rfl
  have y1 := HT.out.y.cell 1 _ rfl
  have y2 := HT.out.y.cell 2 _ rfl
  have y3 := HT.out.y.cell 3 _ rfl
  have y4 := HT.out.y.cell 4 _ rfl
  have y5 := HT.out.y.cell 5 _ rfl
  have yl := HT.out.y.lt
  have HV := Keep.mk (two_vals w1 a b k m e s A n c A' n' c' k2 m2 e2 s2 B n2 d B' n2' d' (HJ.out.up HT.out.b) (HJ2.out.up HT.out.b) 27)
  go_wp2_with fail
  refine (law12_great [a, b] _ 2 _ HV.out).mono ?_
  rintro r w2 ⟨g, rfl, hg, hb2⟩
  replace HT := Keep.mk (HT.out.below (up (al1 _ _) hb2))
  replace hg := Keep.mk hg
  clear hb2 HV
  have x0 := HT.out.x.cell 0 _ rfl
  have x1 := HT.out.x.cell 1 _ rfl
  have x2 := HT.out.x.cell 2 _ rfl
  have x3 := HT.out.x.cell 3 _ rfl
  have x4 := HT.out.x.cell 4 _ rfl
  have x5 := HT.out.x.cell 5 _ rfl
  have xl := HT.out.x.lt
  have y0 := HT.out.y.cell 0 _ rfl
  have y1 := HT.out.y.cell 1 _ rfl
  have y2 := HT.out.y.cell 2 _ rfl
  have y3 := HT.out.y.cell 3 _ rfl
  have y4 := HT.out.y.cell 4 _ rfl
  have y5 := HT.out.y.cell 5 _ rfl
  have yl := HT.out.y.lt
  cases g
  case true =>
    go_wp2
    go_ret
    exact ⟨rfl, HT.out.b⟩
  clear hg
  have hgt := HT.out.y.lt
  have HC := Keep.mk (show CpS w (w2.alloc (.cells #[.bool false, .bool false, .bool false, .bool false, .bool false, .bool false] 30)) (cells6 k m e s A n c A' n' c') (cells6 k2 m2 e2 s2 B n2 d B' n2' d') w2.heap.size [.bool false, .bool false, .bool false, .bool false, .bool false, .bool false] from
    ⟨(HT.out.x.alloc _), (HT.out.y.alloc _), Box.new [.bool false, .bool false, .bool false, .bool false, .bool false, .bool false] _ rfl, by omega, up HT.out.b (al1 _ _)⟩)
  clear HT
  go_upto_region 6 with fail
  refine wp_world (fun W => CpS w W (cells6 k m e s A n c A' n' c') (cells6 k2 m2 e2 s2 B n2 d B' n2' d') w2.heap.size [.bool false, .bool false, .bool false, .bool false, .bool false, .bool false]) HC.out ?_
  clear HC
  obtain ⟨p, hp⟩ : ∃ p, w2.heap.size = p := ⟨_, rfl⟩
  rw [hp]
  clear hp hgt
  rintro W3 HC
  replace HC := Keep.mk HC
  by_cases hbl : badL [a, b] = 0
  case neg =>
    have h30 := badL_two a b hbl
    obtain ⟨er, her⟩ : ∃ er, badL [a, b] = er := ⟨_, rfl⟩
    have HER := Keep.mk her
    rw [her] at hbl h30
    have hne : (er == 0) = false := by simpa using hbl
    clear hbl her
    go_wp2_with fail
    go_loopg [19] 6 (fun gk i wr => i = .int .i64 0 ∧ gk = 6 ∧ W3 = wr)
    case atStart => exact ⟨rfl, rfl, rfl⟩
    case round =>
      obtain ⟨rfl, rfl, rfl⟩ := hrel
      have x0 := HC.out.x.cell 0 _ rfl
      have x1 := HC.out.x.cell 1 _ rfl
      have x2 := HC.out.x.cell 2 _ rfl
      have x3 := HC.out.x.cell 3 _ rfl
      have x4 := HC.out.x.cell 4 _ rfl
      have x5 := HC.out.x.cell 5 _ rfl
      have xl := HC.out.x.lt
      have y0 := HC.out.y.cell 0 _ rfl
      have y1 := HC.out.y.cell 1 _ rfl
      have y2 := HC.out.y.cell 2 _ rfl
      have y3 := HC.out.y.cell 3 _ rfl
      have y4 := HC.out.y.cell 4 _ rfl
      have y5 := HC.out.y.cell 5 _ rfl
      have yl := HC.out.y.lt
      go_wp2_with fail
      refine (oper_bad a b W3 _ _ (HG.out W3 HC.out.b) (HJ.out.up HC.out.b) (HJ2.out.up HC.out.b) er hne HER.out).mono ?_
      rintro r w4 ⟨cs', hr, hj, hb4⟩
      obtain ⟨k6, m6, e6, s6, A6, n6, c6, A5, n5, c5, rfl⟩ := hj.cells
      have hr : r = .returned (.tuple #[.agg #[.int .i64 k6, .int .i64 m6, .int .i64 e6, .string s6, .slice A6 n6 c6, .slice A5 n5 c5], .int .i64 er]) := hr
      subst hr
      have HB := Keep.mk (up (up HC.out.b hb4) (al1 w4 (.cells #[.int .i64 k6, .int .i64 m6, .int .i64 e6, .string s6, .slice A6 n6 c6, .slice A5 n5 c5] 27)))
      clear hj hb4 HC HG HJ HJ2 HER
      rcases h30 with rfl | rfl
      · go_wp2
        go_ret
        exact ⟨rfl, HB.out⟩
      · go_wp2
        go_ret
        exact ⟨rfl, HB.out⟩
  obtain ⟨ha, hb⟩ := badL_ok a b hbl
  have HRA := Keep.mk ha
  have HRB := Keep.mk hb
  obtain ⟨z, hz⟩ : ∃ z : Int, cmpJ a b = z := ⟨_, rfl⟩
  have HZ := Keep.mk hz
  have HSM := Keep.mk (show (z == 0) = sameJ a b by rw [← hz]; exact cmpJ_same ha hb)
  clear ha hb hz hbl
  go_wp2_with fail
  go_loopg [19] 6 (fun gk i wr => ∃ (j : Nat) (b0 b1 b2 b3 b4 b5 : Bool), j + gk = 6 ∧ i = .int .i64 j ∧ Keep (CpS w wr (cells6 k m e s A n c A' n' c') (cells6 k2 m2 e2 s2 B n2 d B' n2' d') p [.bool b0, .bool b1, .bool b2, .bool b3, .bool b4, .bool b5]) ∧ Keep ((0 < j → b0 = decide (z < 0)) ∧ (1 < j → b1 = decide (z = 0)) ∧ (2 < j → b2 = decide (z > 0)) ∧ (3 < j → b3 = decide (z ≤ 0)) ∧ (4 < j → b4 = (!(decide (z = 0)))) ∧ (5 < j → b5 = decide (z ≥ 0))))
  case atStart => exact ⟨0, _, _, _, _, _, _, by omega, rfl, HC, ⟨by simp⟩⟩
  case round =>
    clear HC
    obtain ⟨j, b0, b1, b2, b3, b4, b5, hj, rfl, HC, HBS⟩ := hrel
    by_cases hlt : j < 6
    · have hgk : gk ≠ 0 := by omega
      match j, hlt with
      | 0, _ =>
        have x0 := HC.out.x.cell 0 _ rfl
        have x1 := HC.out.x.cell 1 _ rfl
        have x2 := HC.out.x.cell 2 _ rfl
        have x3 := HC.out.x.cell 3 _ rfl
        have x4 := HC.out.x.cell 4 _ rfl
        have x5 := HC.out.x.cell 5 _ rfl
        have xl := HC.out.x.lt
        have y0 := HC.out.y.cell 0 _ rfl
        have y1 := HC.out.y.cell 1 _ rfl
        have y2 := HC.out.y.cell 2 _ rfl
        have y3 := HC.out.y.cell 3 _ rfl
        have y4 := HC.out.y.cell 4 _ rfl
        have y5 := HC.out.y.cell 5 _ rfl
        have yl := HC.out.y.lt
        go_wp2_with fail
        refine (oper_lt a b wr _ _ (HG.out wr HC.out.b) (HJ.out.up HC.out.b) (HJ2.out.up HC.out.b) HRA.out HRB.out).mono ?_
        rw [HZ.out]
        rintro r w4 ⟨cs', hr, hj4, hb4⟩
        obtain ⟨A5, c5, B5, d5, rfl, _⟩ := JAt.open (show JAt w4 w4.heap.size (.mk (if (decide (z < 0)) then 2 else 1) 0 0 ⟨#[]⟩ [] []) cs' from hj4.jat)
        have hr : r = .returned (.tuple #[.agg #[.int .i64 (if (decide (z < 0)) then 2 else 1), .int .i64 0, .int .i64 0, .string ⟨#[]⟩, .slice A5 0 c5, .slice B5 0 d5], .int .i64 0]) := hr
        replace hb4 := Keep.mk hb4
        clear hj4 x0 x1 x2 x3 x4 x5 xl y0 y1 y2 y3 y4 y5 yl
        obtain ⟨β, hβ⟩ : ∃ β : Bool, (decide (z < 0)) = β := ⟨_, rfl⟩
        rw [hβ] at hr
        replace hβ := Keep.mk hβ
        cases β
        · have hr : r = .returned (.tuple #[.agg #[.int .i64 1, .int .i64 0, .int .i64 0, .string ⟨#[]⟩, .slice A5 0 c5, .slice B5 0 d5], .int .i64 0]) := hr
          subst hr
          replace HC := Keep.mk (HC.out.below (up hb4.out (al1 w4 (.cells #[.int .i64 1, .int .i64 0, .int .i64 0, .string ⟨#[]⟩, .slice A5 0 c5, .slice B5 0 d5] 27))))
          have r0 := HC.out.r.cell 0 _ rfl
          have f0 := HC.out.r.froz 0
          have rl := HC.out.r.lt
          clear hb4
          go_wp2
          go_roundg (gk - 1)
          case rel => exact ⟨1, false, b1, b2, b3, b4, b5, by omega, by go_num, ⟨HC.out.set 0 (by simp) (.bool false)⟩, ⟨fun _ => hβ.out.symm, fun h => absurd h (by omega), fun h => absurd h (by omega), fun h => absurd h (by omega), fun h => absurd h (by omega), fun h => absurd h (by omega)⟩⟩
          case measure => omega
        · have hr : r = .returned (.tuple #[.agg #[.int .i64 2, .int .i64 0, .int .i64 0, .string ⟨#[]⟩, .slice A5 0 c5, .slice B5 0 d5], .int .i64 0]) := hr
          subst hr
          replace HC := Keep.mk (HC.out.below (up hb4.out (al1 w4 (.cells #[.int .i64 2, .int .i64 0, .int .i64 0, .string ⟨#[]⟩, .slice A5 0 c5, .slice B5 0 d5] 27))))
          have r0 := HC.out.r.cell 0 _ rfl
          have f0 := HC.out.r.froz 0
          have rl := HC.out.r.lt
          clear hb4
          go_wp2
          go_roundg (gk - 1)
          case rel => exact ⟨1, true, b1, b2, b3, b4, b5, by omega, by go_num, ⟨HC.out.set 0 (by simp) (.bool true)⟩, ⟨fun _ => hβ.out.symm, fun h => absurd h (by omega), fun h => absurd h (by omega), fun h => absurd h (by omega), fun h => absurd h (by omega), fun h => absurd h (by omega)⟩⟩
          case measure => omega
      | 1, _ =>
        have x0 := HC.out.x.cell 0 _ rfl
        have x1 := HC.out.x.cell 1 _ rfl
        have x2 := HC.out.x.cell 2 _ rfl
        have x3 := HC.out.x.cell 3 _ rfl
        have x4 := HC.out.x.cell 4 _ rfl
        have x5 := HC.out.x.cell 5 _ rfl
        have xl := HC.out.x.lt
        have y0 := HC.out.y.cell 0 _ rfl
        have y1 := HC.out.y.cell 1 _ rfl
        have y2 := HC.out.y.cell 2 _ rfl
        have y3 := HC.out.y.cell 3 _ rfl
        have y4 := HC.out.y.cell 4 _ rfl
        have y5 := HC.out.y.cell 5 _ rfl
        have yl := HC.out.y.lt
        go_wp2_with fail
        refine (oper_eq a b wr _ _ (HG.out wr HC.out.b) (HJ.out.up HC.out.b) (HJ2.out.up HC.out.b) HRA.out HRB.out).mono ?_
        rw [HZ.out]
        rintro r w4 ⟨cs', hr, hj4, hb4⟩
        obtain ⟨A5, c5, B5, d5, rfl, _⟩ := JAt.open (show JAt w4 w4.heap.size (.mk (if (decide (z = 0)) then 2 else 1) 0 0 ⟨#[]⟩ [] []) cs' from hj4.jat)
        have hr : r = .returned (.tuple #[.agg #[.int .i64 (if (decide (z = 0)) then 2 else 1), .int .i64 0, .int .i64 0, .string ⟨#[]⟩, .slice A5 0 c5, .slice B5 0 d5], .int .i64 0]) := hr
        replace hb4 := Keep.mk hb4
        clear hj4 x0 x1 x2 x3 x4 x5 xl y0 y1 y2 y3 y4 y5 yl
        obtain ⟨β, hβ⟩ : ∃ β : Bool, (decide (z = 0)) = β := ⟨_, rfl⟩
        rw [hβ] at hr
        replace hβ := Keep.mk hβ
        cases β
        · have hr : r = .returned (.tuple #[.agg #[.int .i64 1, .int .i64 0, .int .i64 0, .string ⟨#[]⟩, .slice A5 0 c5, .slice B5 0 d5], .int .i64 0]) := hr
          subst hr
          replace HC := Keep.mk (HC.out.below (up hb4.out (al1 w4 (.cells #[.int .i64 1, .int .i64 0, .int .i64 0, .string ⟨#[]⟩, .slice A5 0 c5, .slice B5 0 d5] 27))))
          have r1 := HC.out.r.cell 1 _ rfl
          have f1 := HC.out.r.froz 1
          have rl := HC.out.r.lt
          clear hb4
          go_wp2
          go_roundg (gk - 1)
          case rel => exact ⟨2, b0, false, b2, b3, b4, b5, by omega, by go_num, ⟨HC.out.set 1 (by simp) (.bool false)⟩, ⟨fun _ => HBS.out.1 (by omega), fun _ => hβ.out.symm, fun h => absurd h (by omega), fun h => absurd h (by omega), fun h => absurd h (by omega), fun h => absurd h (by omega)⟩⟩
          case measure => omega
        · have hr : r = .returned (.tuple #[.agg #[.int .i64 2, .int .i64 0, .int .i64 0, .string ⟨#[]⟩, .slice A5 0 c5, .slice B5 0 d5], .int .i64 0]) := hr
          subst hr
          replace HC := Keep.mk (HC.out.below (up hb4.out (al1 w4 (.cells #[.int .i64 2, .int .i64 0, .int .i64 0, .string ⟨#[]⟩, .slice A5 0 c5, .slice B5 0 d5] 27))))
          have r1 := HC.out.r.cell 1 _ rfl
          have f1 := HC.out.r.froz 1
          have rl := HC.out.r.lt
          clear hb4
          go_wp2
          go_roundg (gk - 1)
          case rel => exact ⟨2, b0, true, b2, b3, b4, b5, by omega, by go_num, ⟨HC.out.set 1 (by simp) (.bool true)⟩, ⟨fun _ => HBS.out.1 (by omega), fun _ => hβ.out.symm, fun h => absurd h (by omega), fun h => absurd h (by omega), fun h => absurd h (by omega), fun h => absurd h (by omega)⟩⟩
          case measure => omega
      | 2, _ =>
        have x0 := HC.out.x.cell 0 _ rfl
        have x1 := HC.out.x.cell 1 _ rfl
        have x2 := HC.out.x.cell 2 _ rfl
        have x3 := HC.out.x.cell 3 _ rfl
        have x4 := HC.out.x.cell 4 _ rfl
        have x5 := HC.out.x.cell 5 _ rfl
        have xl := HC.out.x.lt
        have y0 := HC.out.y.cell 0 _ rfl
        have y1 := HC.out.y.cell 1 _ rfl
        have y2 := HC.out.y.cell 2 _ rfl
        have y3 := HC.out.y.cell 3 _ rfl
        have y4 := HC.out.y.cell 4 _ rfl
        have y5 := HC.out.y.cell 5 _ rfl
        have yl := HC.out.y.lt
        go_wp2_with fail
        refine (oper_gt a b wr _ _ (HG.out wr HC.out.b) (HJ.out.up HC.out.b) (HJ2.out.up HC.out.b) HRA.out HRB.out).mono ?_
        rw [HZ.out]
        rintro r w4 ⟨cs', hr, hj4, hb4⟩
        obtain ⟨A5, c5, B5, d5, rfl, _⟩ := JAt.open (show JAt w4 w4.heap.size (.mk (if (decide (z > 0)) then 2 else 1) 0 0 ⟨#[]⟩ [] []) cs' from hj4.jat)
        have hr : r = .returned (.tuple #[.agg #[.int .i64 (if (decide (z > 0)) then 2 else 1), .int .i64 0, .int .i64 0, .string ⟨#[]⟩, .slice A5 0 c5, .slice B5 0 d5], .int .i64 0]) := hr
        replace hb4 := Keep.mk hb4
        clear hj4 x0 x1 x2 x3 x4 x5 xl y0 y1 y2 y3 y4 y5 yl
        obtain ⟨β, hβ⟩ : ∃ β : Bool, (decide (z > 0)) = β := ⟨_, rfl⟩
        rw [hβ] at hr
        replace hβ := Keep.mk hβ
        cases β
        · have hr : r = .returned (.tuple #[.agg #[.int .i64 1, .int .i64 0, .int .i64 0, .string ⟨#[]⟩, .slice A5 0 c5, .slice B5 0 d5], .int .i64 0]) := hr
          subst hr
          replace HC := Keep.mk (HC.out.below (up hb4.out (al1 w4 (.cells #[.int .i64 1, .int .i64 0, .int .i64 0, .string ⟨#[]⟩, .slice A5 0 c5, .slice B5 0 d5] 27))))
          have r2 := HC.out.r.cell 2 _ rfl
          have f2 := HC.out.r.froz 2
          have rl := HC.out.r.lt
          clear hb4
          go_wp2
          go_roundg (gk - 1)
          case rel => exact ⟨3, b0, b1, false, b3, b4, b5, by omega, by go_num, ⟨HC.out.set 2 (by simp) (.bool false)⟩, ⟨fun _ => HBS.out.1 (by omega), fun _ => HBS.out.2.1 (by omega), fun _ => hβ.out.symm, fun h => absurd h (by omega), fun h => absurd h (by omega), fun h => absurd h (by omega)⟩⟩
          case measure => omega
        · have hr : r = .returned (.tuple #[.agg #[.int .i64 2, .int .i64 0, .int .i64 0, .string ⟨#[]⟩, .slice A5 0 c5, .slice B5 0 d5], .int .i64 0]) := hr
          subst hr
          replace HC := Keep.mk (HC.out.below (up hb4.out (al1 w4 (.cells #[.int .i64 2, .int .i64 0, .int .i64 0, .string ⟨#[]⟩, .slice A5 0 c5, .slice B5 0 d5] 27))))
          have r2 := HC.out.r.cell 2 _ rfl
          have f2 := HC.out.r.froz 2
          have rl := HC.out.r.lt
          clear hb4
          go_wp2
          go_roundg (gk - 1)
          case rel => exact ⟨3, b0, b1, true, b3, b4, b5, by omega, by go_num, ⟨HC.out.set 2 (by simp) (.bool true)⟩, ⟨fun _ => HBS.out.1 (by omega), fun _ => HBS.out.2.1 (by omega), fun _ => hβ.out.symm, fun h => absurd h (by omega), fun h => absurd h (by omega), fun h => absurd h (by omega)⟩⟩
          case measure => omega
      | 3, _ =>
        have x0 := HC.out.x.cell 0 _ rfl
        have x1 := HC.out.x.cell 1 _ rfl
        have x2 := HC.out.x.cell 2 _ rfl
        have x3 := HC.out.x.cell 3 _ rfl
        have x4 := HC.out.x.cell 4 _ rfl
        have x5 := HC.out.x.cell 5 _ rfl
        have xl := HC.out.x.lt
        have y0 := HC.out.y.cell 0 _ rfl
        have y1 := HC.out.y.cell 1 _ rfl
        have y2 := HC.out.y.cell 2 _ rfl
        have y3 := HC.out.y.cell 3 _ rfl
        have y4 := HC.out.y.cell 4 _ rfl
        have y5 := HC.out.y.cell 5 _ rfl
        have yl := HC.out.y.lt
        go_wp2_with fail
        refine (oper_le a b wr _ _ (HG.out wr HC.out.b) (HJ.out.up HC.out.b) (HJ2.out.up HC.out.b) HRA.out HRB.out).mono ?_
        rw [HZ.out]
        rintro r w4 ⟨cs', hr, hj4, hb4⟩
        obtain ⟨A5, c5, B5, d5, rfl, _⟩ := JAt.open (show JAt w4 w4.heap.size (.mk (if (decide (z ≤ 0)) then 2 else 1) 0 0 ⟨#[]⟩ [] []) cs' from hj4.jat)
        have hr : r = .returned (.tuple #[.agg #[.int .i64 (if (decide (z ≤ 0)) then 2 else 1), .int .i64 0, .int .i64 0, .string ⟨#[]⟩, .slice A5 0 c5, .slice B5 0 d5], .int .i64 0]) := hr
        replace hb4 := Keep.mk hb4
        clear hj4 x0 x1 x2 x3 x4 x5 xl y0 y1 y2 y3 y4 y5 yl
        obtain ⟨β, hβ⟩ : ∃ β : Bool, (decide (z ≤ 0)) = β := ⟨_, rfl⟩
        rw [hβ] at hr
        replace hβ := Keep.mk hβ
        cases β
        · have hr : r = .returned (.tuple #[.agg #[.int .i64 1, .int .i64 0, .int .i64 0, .string ⟨#[]⟩, .slice A5 0 c5, .slice B5 0 d5], .int .i64 0]) := hr
          subst hr
          replace HC := Keep.mk (HC.out.below (up hb4.out (al1 w4 (.cells #[.int .i64 1, .int .i64 0, .int .i64 0, .string ⟨#[]⟩, .slice A5 0 c5, .slice B5 0 d5] 27))))
          have r3 := HC.out.r.cell 3 _ rfl
          have f3 := HC.out.r.froz 3
          have rl := HC.out.r.lt
          clear hb4
          go_wp2
          go_roundg (gk - 1)
          case rel => exact ⟨4, b0, b1, b2, false, b4, b5, by omega, by go_num, ⟨HC.out.set 3 (by simp) (.bool false)⟩, ⟨fun _ => HBS.out.1 (by omega), fun _ => HBS.out.2.1 (by omega), fun _ => HBS.out.2.2.1 (by omega), fun _ => hβ.out.symm, fun h => absurd h (by omega), fun h => absurd h (by omega)⟩⟩
          case measure => omega
        · have hr : r = .returned (.tuple #[.agg #[.int .i64 2, .int .i64 0, .int .i64 0, .string ⟨#[]⟩, .slice A5 0 c5, .slice B5 0 d5], .int .i64 0]) := hr
          subst hr
          replace HC := Keep.mk (HC.out.below (up hb4.out (al1 w4 (.cells #[.int .i64 2, .int .i64 0, .int .i64 0, .string ⟨#[]⟩, .slice A5 0 c5, .slice B5 0 d5] 27))))
          have r3 := HC.out.r.cell 3 _ rfl
          have f3 := HC.out.r.froz 3
          have rl := HC.out.r.lt
          clear hb4
          go_wp2
          go_roundg (gk - 1)
          case rel => exact ⟨4, b0, b1, b2, true, b4, b5, by omega, by go_num, ⟨HC.out.set 3 (by simp) (.bool true)⟩, ⟨fun _ => HBS.out.1 (by omega), fun _ => HBS.out.2.1 (by omega), fun _ => HBS.out.2.2.1 (by omega), fun _ => hβ.out.symm, fun h => absurd h (by omega), fun h => absurd h (by omega)⟩⟩
          case measure => omega
      | 4, _ =>
        have x0 := HC.out.x.cell 0 _ rfl
        have x1 := HC.out.x.cell 1 _ rfl
        have x2 := HC.out.x.cell 2 _ rfl
        have x3 := HC.out.x.cell 3 _ rfl
        have x4 := HC.out.x.cell 4 _ rfl
        have x5 := HC.out.x.cell 5 _ rfl
        have xl := HC.out.x.lt
        have y0 := HC.out.y.cell 0 _ rfl
        have y1 := HC.out.y.cell 1 _ rfl
        have y2 := HC.out.y.cell 2 _ rfl
        have y3 := HC.out.y.cell 3 _ rfl
        have y4 := HC.out.y.cell 4 _ rfl
        have y5 := HC.out.y.cell 5 _ rfl
        have yl := HC.out.y.lt
        go_wp2_with fail
        refine (oper_ne a b wr _ _ (HG.out wr HC.out.b) (HJ.out.up HC.out.b) (HJ2.out.up HC.out.b) HRA.out HRB.out).mono ?_
        rw [HZ.out]
        rintro r w4 ⟨cs', hr, hj4, hb4⟩
        obtain ⟨A5, c5, B5, d5, rfl, _⟩ := JAt.open (show JAt w4 w4.heap.size (.mk (if (!(decide (z = 0))) then 2 else 1) 0 0 ⟨#[]⟩ [] []) cs' from hj4.jat)
        have hr : r = .returned (.tuple #[.agg #[.int .i64 (if (!(decide (z = 0))) then 2 else 1), .int .i64 0, .int .i64 0, .string ⟨#[]⟩, .slice A5 0 c5, .slice B5 0 d5], .int .i64 0]) := hr
        replace hb4 := Keep.mk hb4
        clear hj4 x0 x1 x2 x3 x4 x5 xl y0 y1 y2 y3 y4 y5 yl
        obtain ⟨β, hβ⟩ : ∃ β : Bool, (!(decide (z = 0))) = β := ⟨_, rfl⟩
        rw [hβ] at hr
        replace hβ := Keep.mk hβ
        cases β
        · have hr : r = .returned (.tuple #[.agg #[.int .i64 1, .int .i64 0, .int .i64 0, .string ⟨#[]⟩, .slice A5 0 c5, .slice B5 0 d5], .int .i64 0]) := hr
          subst hr
          replace HC := Keep.mk (HC.out.below (up hb4.out (al1 w4 (.cells #[.int .i64 1, .int .i64 0, .int .i64 0, .string ⟨#[]⟩, .slice A5 0 c5, .slice B5 0 d5] 27))))
          have r4 := HC.out.r.cell 4 _ rfl
          have f4 := HC.out.r.froz 4
          have rl := HC.out.r.lt
          clear hb4
          go_wp2
          go_roundg (gk - 1)
          case rel => exact ⟨5, b0, b1, b2, b3, false, b5, by omega, by go_num, ⟨HC.out.set 4 (by simp) (.bool false)⟩, ⟨fun _ => HBS.out.1 (by omega), fun _ => HBS.out.2.1 (by omega), fun _ => HBS.out.2.2.1 (by omega), fun _ => HBS.out.2.2.2.1 (by omega), fun _ => hβ.out.symm, fun h => absurd h (by omega)⟩⟩
          case measure => omega
        · have hr : r = .returned (.tuple #[.agg #[.int .i64 2, .int .i64 0, .int .i64 0, .string ⟨#[]⟩, .slice A5 0 c5, .slice B5 0 d5], .int .i64 0]) := hr
          subst hr
          replace HC := Keep.mk (HC.out.below (up hb4.out (al1 w4 (.cells #[.int .i64 2, .int .i64 0, .int .i64 0, .string ⟨#[]⟩, .slice A5 0 c5, .slice B5 0 d5] 27))))
          have r4 := HC.out.r.cell 4 _ rfl
          have f4 := HC.out.r.froz 4
          have rl := HC.out.r.lt
          clear hb4
          go_wp2
          go_roundg (gk - 1)
          case rel => exact ⟨5, b0, b1, b2, b3, true, b5, by omega, by go_num, ⟨HC.out.set 4 (by simp) (.bool true)⟩, ⟨fun _ => HBS.out.1 (by omega), fun _ => HBS.out.2.1 (by omega), fun _ => HBS.out.2.2.1 (by omega), fun _ => HBS.out.2.2.2.1 (by omega), fun _ => hβ.out.symm, fun h => absurd h (by omega)⟩⟩
          case measure => omega
      | 5, _ =>
        have x0 := HC.out.x.cell 0 _ rfl
        have x1 := HC.out.x.cell 1 _ rfl
        have x2 := HC.out.x.cell 2 _ rfl
        have x3 := HC.out.x.cell 3 _ rfl
        have x4 := HC.out.x.cell 4 _ rfl
        have x5 := HC.out.x.cell 5 _ rfl
        have xl := HC.out.x.lt
        have y0 := HC.out.y.cell 0 _ rfl
        have y1 := HC.out.y.cell 1 _ rfl
        have y2 := HC.out.y.cell 2 _ rfl
        have y3 := HC.out.y.cell 3 _ rfl
        have y4 := HC.out.y.cell 4 _ rfl
        have y5 := HC.out.y.cell 5 _ rfl
        have yl := HC.out.y.lt
        go_wp2_with fail
        refine (oper_ge a b wr _ _ (HG.out wr HC.out.b) (HJ.out.up HC.out.b) (HJ2.out.up HC.out.b) HRA.out HRB.out).mono ?_
        rw [HZ.out]
        rintro r w4 ⟨cs', hr, hj4, hb4⟩
        obtain ⟨A5, c5, B5, d5, rfl, _⟩ := JAt.open (show JAt w4 w4.heap.size (.mk (if (decide (z ≥ 0)) then 2 else 1) 0 0 ⟨#[]⟩ [] []) cs' from hj4.jat)
        have hr : r = .returned (.tuple #[.agg #[.int .i64 (if (decide (z ≥ 0)) then 2 else 1), .int .i64 0, .int .i64 0, .string ⟨#[]⟩, .slice A5 0 c5, .slice B5 0 d5], .int .i64 0]) := hr
        replace hb4 := Keep.mk hb4
        clear hj4 x0 x1 x2 x3 x4 x5 xl y0 y1 y2 y3 y4 y5 yl
        obtain ⟨β, hβ⟩ : ∃ β : Bool, (decide (z ≥ 0)) = β := ⟨_, rfl⟩
        rw [hβ] at hr
        replace hβ := Keep.mk hβ
        cases β
        · have hr : r = .returned (.tuple #[.agg #[.int .i64 1, .int .i64 0, .int .i64 0, .string ⟨#[]⟩, .slice A5 0 c5, .slice B5 0 d5], .int .i64 0]) := hr
          subst hr
          replace HC := Keep.mk (HC.out.below (up hb4.out (al1 w4 (.cells #[.int .i64 1, .int .i64 0, .int .i64 0, .string ⟨#[]⟩, .slice A5 0 c5, .slice B5 0 d5] 27))))
          have r5 := HC.out.r.cell 5 _ rfl
          have f5 := HC.out.r.froz 5
          have rl := HC.out.r.lt
          clear hb4
          go_wp2
          go_roundg (gk - 1)
          case rel => exact ⟨6, b0, b1, b2, b3, b4, false, by omega, by go_num, ⟨HC.out.set 5 (by simp) (.bool false)⟩, ⟨fun _ => HBS.out.1 (by omega), fun _ => HBS.out.2.1 (by omega), fun _ => HBS.out.2.2.1 (by omega), fun _ => HBS.out.2.2.2.1 (by omega), fun _ => HBS.out.2.2.2.2.1 (by omega), fun _ => hβ.out.symm⟩⟩
          case measure => omega
        · have hr : r = .returned (.tuple #[.agg #[.int .i64 2, .int .i64 0, .int .i64 0, .string ⟨#[]⟩, .slice A5 0 c5, .slice B5 0 d5], .int .i64 0]) := hr
          subst hr
          replace HC := Keep.mk (HC.out.below (up hb4.out (al1 w4 (.cells #[.int .i64 2, .int .i64 0, .int .i64 0, .string ⟨#[]⟩, .slice A5 0 c5, .slice B5 0 d5] 27))))
          have r5 := HC.out.r.cell 5 _ rfl
          have f5 := HC.out.r.froz 5
          have rl := HC.out.r.lt
          clear hb4
          go_wp2
          go_roundg (gk - 1)
          case rel => exact ⟨6, b0, b1, b2, b3, b4, true, by omega, by go_num, ⟨HC.out.set 5 (by simp) (.bool true)⟩, ⟨fun _ => HBS.out.1 (by omega), fun _ => HBS.out.2.1 (by omega), fun _ => HBS.out.2.2.1 (by omega), fun _ => HBS.out.2.2.2.1 (by omega), fun _ => HBS.out.2.2.2.2.1 (by omega), fun _ => hβ.out.symm⟩⟩
          case measure => omega
      | j + 6, h => exact absurd h (by omega)
    · obtain rfl : j = 6 := by omega
      have x0 := HC.out.x.cell 0 _ rfl
      have x1 := HC.out.x.cell 1 _ rfl
      have x2 := HC.out.x.cell 2 _ rfl
      have x3 := HC.out.x.cell 3 _ rfl
      have x4 := HC.out.x.cell 4 _ rfl
      have x5 := HC.out.x.cell 5 _ rfl
      have xl := HC.out.x.lt
      have y0 := HC.out.y.cell 0 _ rfl
      have y1 := HC.out.y.cell 1 _ rfl
      have y2 := HC.out.y.cell 2 _ rfl
      have y3 := HC.out.y.cell 3 _ rfl
      have y4 := HC.out.y.cell 4 _ rfl
      have y5 := HC.out.y.cell 5 _ rfl
      have yl := HC.out.y.lt
      go_wp2_with fail
      refine (order_Cmp a b wr _ _ (HG.out wr HC.out.b).num (HG.out wr HC.out.b).weak (HJ.out.up HC.out.b) (HJ2.out.up HC.out.b) HRA.out HRB.out).mono ?_
      rw [HZ.out]
      rintro r w4 ⟨rfl, hb4⟩
      replace HC := Keep.mk (HC.out.below hb4)
      have HSS := Keep.mk (fun (y : Above w4) => ref3_Same _ a b (Nat.le_refl _) y.val _ _ (HJ.out.up (up HC.out.b y.property)) (HJ2.out.up (up HC.out.b y.property)))
      rw [← HSM.out] at HSS
      clear hb4 HG HJ HJ2 HRA HRB HSM
      clear x0 x1 x2 x3 x4 x5 y0 y1 y2 y3 y4 y5 xl yl
      have x0 := HC.out.x.cell 0 _ rfl
      have x1 := HC.out.x.cell 1 _ rfl
      have x2 := HC.out.x.cell 2 _ rfl
      have x3 := HC.out.x.cell 3 _ rfl
      have x4 := HC.out.x.cell 4 _ rfl
      have x5 := HC.out.x.cell 5 _ rfl
      have xl := HC.out.x.lt
      have y0 := HC.out.y.cell 0 _ rfl
      have y1 := HC.out.y.cell 1 _ rfl
      have y2 := HC.out.y.cell 2 _ rfl
      have y3 := HC.out.y.cell 3 _ rfl
      have y4 := HC.out.y.cell 4 _ rfl
      have y5 := HC.out.y.cell 5 _ rfl
      have yl := HC.out.y.lt
      have r0 := HC.out.r.cell 0 _ rfl
      have r1 := HC.out.r.cell 1 _ rfl
      have r2 := HC.out.r.cell 2 _ rfl
      have r3 := HC.out.r.cell 3 _ rfl
      have r4 := HC.out.r.cell 4 _ rfl
      have r5 := HC.out.r.cell 5 _ rfl
      have rl := HC.out.r.lt
      rcases Int.lt_trichotomy z 0 with hz | hz | hz
      · have e0 : (z == 0) = false := by rw [beq_eq_false_iff_ne]; omega
        have d0 : decide (z < 0) = true := decide_eq_true hz
        have d1 : decide (0 < z) = false := decide_eq_false (by omega)
        obtain rfl : b0 = true := by rw [HBS.out.1 (by decide)]; simp; try omega
        obtain rfl : b1 = false := by rw [HBS.out.2.1 (by decide)]; simp; try omega
        obtain rfl : b2 = false := by rw [HBS.out.2.2.1 (by decide)]; simp; try omega
        obtain rfl : b3 = true := by rw [HBS.out.2.2.2.1 (by decide)]; simp; try omega
        obtain rfl : b4 = true := by rw [HBS.out.2.2.2.2.1 (by decide)]; simp; try omega
        obtain rfl : b5 = false := by rw [HBS.out.2.2.2.2.2 (by decide)]; simp; try omega
        rw [e0] at HSS
        clear HBS
        go_wp2_with fail
        refine wp_region_above (by kernel_rfl) (by kernel_rfl) ?_
        repeat (go_big_quiet_step ((go_at_call 10; exact calls_above (HSS.out _))))
        refine wpQuiet_nil ?_
        rintro _ ⟨y, rfl⟩
        go_wp2
        go_ret
        exact ⟨rfl, up HC.out.b y.property⟩
      · subst hz
        obtain rfl : b0 = false := by rw [HBS.out.1 (by decide)]; simp; try omega
        obtain rfl : b1 = true := by rw [HBS.out.2.1 (by decide)]; simp; try omega
        obtain rfl : b2 = false := by rw [HBS.out.2.2.1 (by decide)]; simp; try omega
        obtain rfl : b3 = true := by rw [HBS.out.2.2.2.1 (by decide)]; simp; try omega
        obtain rfl : b4 = false := by rw [HBS.out.2.2.2.2.1 (by decide)]; simp; try omega
        obtain rfl : b5 = true := by rw [HBS.out.2.2.2.2.2 (by decide)]; simp; try omega
        rw [show ((0 : Int) == 0) = true from rfl] at HSS
        clear HBS
        go_wp2_with fail
        refine wp_region_above (by kernel_rfl) (by kernel_rfl) ?_
        repeat (go_big_quiet_step ((go_at_call 10; exact calls_above (HSS.out _))))
        refine wpQuiet_nil ?_
        rintro _ ⟨y, rfl⟩
        go_wp2
        go_ret
        exact ⟨rfl, up HC.out.b y.property⟩
      · have e0 : (z == 0) = false := by rw [beq_eq_false_iff_ne]; omega
        have d0 : decide (z < 0) = false := decide_eq_false (by omega)
        have d1 : decide (0 < z) = true := decide_eq_true hz
        obtain rfl : b0 = false := by rw [HBS.out.1 (by decide)]; simp; try omega
        obtain rfl : b1 = false := by rw [HBS.out.2.1 (by decide)]; simp; try omega
        obtain rfl : b2 = true := by rw [HBS.out.2.2.1 (by decide)]; simp; try omega
        obtain rfl : b3 = false := by rw [HBS.out.2.2.2.1 (by decide)]; simp; try omega
        obtain rfl : b4 = true := by rw [HBS.out.2.2.2.2.1 (by decide)]; simp; try omega
        obtain rfl : b5 = true := by rw [HBS.out.2.2.2.2.2 (by decide)]; simp; try omega
        rw [e0] at HSS
        clear HBS
        go_wp2_with fail
        refine wp_region_above (by kernel_rfl) (by kernel_rfl) ?_
        repeat (go_big_quiet_step ((go_at_call 10; exact calls_above (HSS.out _))))
        refine wpQuiet_nil ?_
        rintro _ ⟨y, rfl⟩
        go_wp2
        go_ret
        exact ⟨rfl, up HC.out.b y.property⟩
end Go.Proofs.YtmacgdcmgbkfnaaGreatDoor
