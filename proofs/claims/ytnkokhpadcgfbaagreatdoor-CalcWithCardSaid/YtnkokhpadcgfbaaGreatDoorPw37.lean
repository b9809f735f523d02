/- Lemmas and contracts for the laws CalcWith, part 37 of 50: Ref12. Conditions: those that each lemma names. -/
import Derived.Test.YtnkokhpadcgfbaaGreatDoorPw34
import Derived.Test.YtnkokhpadcgfbaaGreatDoorPw31
import Derived.Test.YtnkokhpadcgfbaaGreatDoorPw32
import Derived.Test.YtnkokhpadcgfbaaGreatDoorPw35
namespace Go.Proofs.YtnkokhpadcgfbaaGreatDoor
open Go Go.RowKit Go.Proofs Th
attribute [local go_sem] Above.cell
def RefPost (w : World) (r : Ending) (w' : World) (p : JV × Int) : Prop := ∃ cs', r = .returned (.tuple #[.agg (List.toArray cs'), .int .i64 p.2]) ∧ JAt w' w'.heap.size p.1 cs' ∧ Below w.heap.size w w'
set_option maxRecDepth 100000 in
theorem ref12_number (m e : Int) (w : World) : Calls Tryz.prog 93 #[.agg #[.int .i64 m, .int .i64 e]] w fun r w' => r = .returned (.agg #[.int .i64 3, .int .i64 m, .int .i64 e, .string ⟨#[]⟩, .slice none 0 0, .slice none 0 0]) ∧ Below w.heap.size w w' := by
  go_enter Tryz.func93, Tryz.ntmps93
  go_wp2
  refine bodyPost_ret (v := .agg #[.int .i64 3, .int .i64 m, .int .i64 e, .string ⟨#[]⟩, .slice none 0 0, .slice none 0 0]) ?_ rfl ⟨rfl, al2 _ _ _⟩
  simp [results, Tryz.results93, go_sem]
set_option maxRecDepth 100000 in
theorem ref12_text (s : ByteArray) (w : World) : Calls Tryz.prog 55 #[.string s] w fun r w' => r = .returned (.agg #[.int .i64 4, .int .i64 0, .int .i64 0, .string s, .slice none 0 0, .slice none 0 0]) ∧ Below w.heap.size w w' := by
  go_enter Tryz.func55, Tryz.ntmps55
  go_wp2
  refine bodyPost_ret (v := .agg #[.int .i64 4, .int .i64 0, .int .i64 0, .string s, .slice none 0 0, .slice none 0 0]) ?_ rfl ⟨rfl, al1 _ _⟩
  simp [results, Tryz.results55, go_sem]
set_option maxRecDepth 100000 in
theorem ref12_truth (b : Bool) (w : World) : Calls Tryz.prog 52 #[.bool b] w fun r w' => r = .returned (.agg #[.int .i64 (if b then 2 else 1), .int .i64 0, .int .i64 0, .string ⟨#[]⟩, .slice none 0 0, .slice none 0 0]) ∧ Below w.heap.size w w' := by
  cases b
  · go_enter Tryz.func52, Tryz.ntmps52
    go_wp2
    refine bodyPost_ret (v := .agg #[.int .i64 1, .int .i64 0, .int .i64 0, .string ⟨#[]⟩, .slice none 0 0, .slice none 0 0]) ?_ rfl ⟨rfl, al1 _ _⟩
    simp [results, Tryz.results52, go_sem]
  · go_enter Tryz.func52, Tryz.ntmps52
    go_wp2
    refine bodyPost_ret (v := .agg #[.int .i64 2, .int .i64 0, .int .i64 0, .string ⟨#[]⟩, .slice none 0 0, .slice none 0 0]) ?_ rfl ⟨rfl, al1 _ _⟩
    simp [results, Tryz.results52, go_sem]
theorem ref12_truth2 (b : Bool) (w : World) : Calls Tryz.prog 52 #[.bool b] w fun r w' => ∃ q : Int, r = .returned (.agg #[.int .i64 q, .int .i64 0, .int .i64 0, .string ⟨#[]⟩, .slice none 0 0, .slice none 0 0]) ∧ Keep (∀ W S, JIn W S (truthV b) (cells6 q 0 0 ⟨#[]⟩ none 0 0 none 0 0)) ∧ Below w.heap.size w w' :=
  (ref12_truth b w).mono fun _ _ ⟨h, hb⟩ => ⟨_, h, ⟨fun W S => truth_in W S b⟩, hb⟩
set_option maxRecDepth 100000 in
theorem ref12_right (a b : JV) (hza : countJ a ≤ 1000000) (hzb : countJ b ≤ 1000000) (w : World) (cs cs2 : List Value) (hJ : JAt w w.heap.size a cs) (hJ2 : JAt w w.heap.size b cs2) :
    Calls Tryz.prog 33 #[.agg cs.toArray, .agg cs2.toArray] w fun r w' => r = .returned (.int .i64 (badL [a, b])) ∧ Below w.heap.size w w' := by
  obtain ⟨k, m, e, s, A, n, c, A', n', c', rfl⟩ := hJ.inn.cells
  obtain ⟨k2, m2, e2, s2, B, n2, d, B', n2', d', rfl⟩ := hJ2.inn.cells
  have HA := Keep.mk (fun W (hb : Below w.heap.size w W) => ref3_Right a hza W _ (hJ.up hb))
  have HB := Keep.mk (fun W (hb : Below w.heap.size w W) => ref3_Right b hzb W _ (hJ2.up hb))
  have HD := Keep.mk (show badL [a, b] = if rightJ a ≠ 0 then rightJ a else if rightJ b ≠ 0 then rightJ b else 0 from rfl)
  have HT := Keep.mk (TwoB.new w k m e s A n c A' n' c' k2 m2 e2 s2 B n2 d B' n2' d' 27 27)
  obtain ⟨ra, hra⟩ : ∃ z, rightJ a = z := ⟨_, rfl⟩
  obtain ⟨rb, hrb⟩ : ∃ z, rightJ b = z := ⟨_, rfl⟩
  rw [hra] at HA HD
  rw [hrb] at HB HD
  clear hJ hJ2 hza hzb hra hrb
  show Calls _ _ #[.agg #[.int .i64 k, .int .i64 m, .int .i64 e, .string s, .slice A n c, .slice A' n' c'], .agg #[.int .i64 k2, .int .i64 m2, .int .i64 e2, .string s2, .slice B n2 d, .slice B' n2' d']] w _
  go_enter Tryz.func33, Tryz.ntmps33
  go_wp2_with fail
  refine calls_world (fun W => TwoB w W (cells6 k m e s A n c A' n' c') (cells6 k2 m2 e2 s2 B n2 d B' n2' d')) HT.out ?_
  clear HT
  rintro W0 HT
  refine (HA.out W0 HT.b).mono ?_
  rintro r w1 ⟨rfl, hb1⟩
  replace HT := Keep.mk (HT.below hb1)
  clear hb1 HA
  by_cases h : ra = 0
  · subst h
    have y0 := HT.out.y.cell 0 _ rfl
    have y1 := HT.out.y.cell 1 _ rfl
    have y2 := HT.out.y.cell 2 _ rfl
    have y3 := HT.out.y.cell 3 _ rfl
    have y4 := HT.out.y.cell 4 _ rfl
    have y5 := HT.out.y.cell 5 _ rfl
    have yl := HT.out.y.lt
    go_wp2_with fail
    refine (HB.out w1 HT.out.b).mono ?_
    rintro r w2 ⟨rfl, hb2⟩
    replace HT := Keep.mk (HT.out.below hb2)
    clear hb2 HB
    have HE := Keep.mk (show rb = badL [a, b] by rw [HD.out]; by_cases h : rb = 0 <;> simp [h])
    clear HD
    go_wp2
    go_ret
    exact ⟨ret_int HE.out, HT.out.b⟩
  · have hb : (ra == 0) = false := by simpa using h
    have HE := Keep.mk (show ra = badL [a, b] by rw [HD.out, if_pos h])
    clear HD h HB
    go_wp2
    go_ret
    exact ⟨ret_int HE.out, HT.out.b⟩
theorem zero_at12 (W : World) (B : Nat) : JAt W B zeroJ (cells6 0 0 0 ⟨#[]⟩ none 0 0 none 0 0) := (zero_in W (fun _ => False)).at fun _g hg => hg.elim
set_option maxRecDepth 100000 in
theorem ref12_done (t : JV) (e : Int) (hz : e = 0 → sizeJ t ≤ 1000000) (w : World) (cs : List Value) (S : Nat → Prop) (hS : ∀ g, S g → g < w.heap.size) (hJS : JIn w S t cs) :
    Calls Tryz.prog 34 #[.agg cs.toArray, .int .i64 e] w fun r w' => ∃ cs', r = .returned (.tuple #[.agg (List.toArray cs'), .int .i64 (doneJ (t, e)).2]) ∧ JIn w' S (doneJ (t, e)).1 cs' ∧ Below w.heap.size w w' := by
  have hJ := hJS.at hS
  obtain ⟨k, m, x, s, A, n, c, A', n', c', rfl⟩ := hJS.cells
  have HJ := Keep.mk hJ
  have HJS := Keep.mk (show ∀ W, Below w.heap.size w W → JIn W S t (cells6 k m x s A n c A' n' c') from fun W hb => hJS.keep (fun g hg => hb.block g (hS g hg)) (fun _ h => h))
  clear hJS hS
  have HT := Keep.mk (OneB.new w k m x s A n c A' n' c' 27)
  clear hJ
  show Calls _ _ #[.agg #[.int .i64 k, .int .i64 m, .int .i64 x, .string s, .slice A n c, .slice A' n' c'], .int .i64 e] w _
  by_cases he : e = 0
  · subst he
    have hz := hz rfl
    have hct := Nat.le_trans (countJ_le t) hz
    have HRI := Keep.mk (fun W (hb : Below w.heap.size w W) => ref3_Right t hct W _ (HJ.out.up hb))
    have HTX := Keep.mk (fun W (hb : Below w.heap.size w W) (ha : rightJ t = 0) => ref7_Text _ t (Nat.le_refl _) hz (right_ok ha).1 W _ (HJ.out.up hb))
    obtain ⟨bt, hbt⟩ : ∃ bt : ByteArray, bt.data.toList = textJ textN t := ⟨⟨(textJ textN t).toArray⟩, by simp⟩
    have HPT := Keep.mk (show rightJ t = 0 → (printJ t).length = bt.size from fun h => by
      unfold printJ
      rw [if_pos h, ← hbt]; rfl)
    rw [strB_as hbt] at HTX
    have HSM := Keep.mk (show rightJ t = 0 → bt.size ≤ 4000000000 from fun h => by
      have h1 := txt_len (right_ok h).1 hz
      rw [← hbt] at h1
      exact h1)
    have HD := Keep.mk (show doneJ (t, 0) = if rightJ t ≠ 0 then (zeroJ, rightJ t) else if 16384 < (printJ t).length then (zeroJ, 3) else (t, 0) by unfold doneJ; rw [if_neg (by simp)])
    obtain ⟨rr, hrr⟩ : ∃ z, rightJ t = z := ⟨_, rfl⟩
    rw [hrr] at HRI HTX HPT HD HSM
    clear hz hct hbt hrr
    go_enter Tryz.func34, Tryz.ntmps34
    go_upto_region 1 with fail
    refine wp_world (fun W => OneB w W (cells6 k m x s A n c A' n' c') ∧ Box W (w.heap.size + 1) zero6) ⟨HT.out.below (al1 _ _), Box.new zero6 _ (by simp)⟩ ?_
    clear HT
    rintro W0 ⟨HT, HR⟩
    replace HT := Keep.mk HT
    replace HR := Keep.mk HR
    have x0 := HT.out.x.cell 0 _ rfl
    have x1 := HT.out.x.cell 1 _ rfl
    have x2 := HT.out.x.cell 2 _ rfl
    have x3 := HT.out.x.cell 3 _ rfl
    have x4 := HT.out.x.cell 4 _ rfl
    have x5 := HT.out.x.cell 5 _ rfl
    have xl := HT.out.x.lt
    go_wp2_with fail
    refine (HRI.out W0 HT.out.b).mono ?_
    rintro r w1 ⟨rfl, hb1⟩
    clear x0 x1 x2 x3 x4 x5 xl
    replace HR := Keep.mk (HR.out.below hb1 HR.out.lt)
    replace HT := Keep.mk (HT.out.below hb1)
    clear hb1 HRI
    by_cases h0 : rr = 0
    · subst h0
      have hpt := HPT.out rfl
      have hsm := Keep.mk (HSM.out rfl)
      have x0 := HT.out.x.cell 0 _ rfl
      have x1 := HT.out.x.cell 1 _ rfl
      have x2 := HT.out.x.cell 2 _ rfl
      have x3 := HT.out.x.cell 3 _ rfl
      have x4 := HT.out.x.cell 4 _ rfl
      have x5 := HT.out.x.cell 5 _ rfl
      have xl := HT.out.x.lt
      go_wp2_with fail
      refine (HTX.out w1 HT.out.b (by simp)).mono ?_
      rintro r w2 ⟨rfl, hb2⟩
      clear x0 x1 x2 x3 x4 x5 xl
      replace HR := Keep.mk (HR.out.below hb2 HR.out.lt)
      replace HT := Keep.mk (HT.out.below hb2)
      rw [hpt] at HD
      clear hb2 HTX HPT HSM hpt
      by_cases hbig : 16384 < bt.size
      · have HE := Keep.mk (show doneJ (t, 0) = (zeroJ, 3) by rw [HD.out, if_neg (by simp), if_pos hbig])
        clear HD
        have r0 := HR.out.cell 0 _ rfl
        have f0 := HR.out.froz 0
        have r1 := HR.out.cell 1 _ rfl
        have f1 := HR.out.froz 1
        have r2 := HR.out.cell 2 _ rfl
        have f2 := HR.out.froz 2
        have r3 := HR.out.cell 3 _ rfl
        have f3 := HR.out.froz 3
        have r4 := HR.out.cell 4 _ rfl
        have f4 := HR.out.froz 4
        have r5 := HR.out.cell 5 _ rfl
        have f5 := HR.out.froz 5
        have rl := HR.out.lt
        go_wp2
        refine bodyPost_ret (v := .tuple #[.agg #[.int .i64 0, .int .i64 0, .int .i64 0, .string ⟨#[]⟩, .slice none 0 0, .slice none 0 0], .int .i64 3]) ?_ rfl ⟨zero6, by rw [HE.out]; rfl, by rw [HE.out]; exact zero_in _ _, HT.out.b.trans (six_below w2 (w.heap.size + 1) (.int .i64 0) (.int .i64 0) (.int .i64 0) (.string ⟨#[]⟩) (.slice none 0 0) (.slice none 0 0) (by omega))⟩
        simp [results, Tryz.results34, go_sem, r0, r1, r2, r3, r4, r5]
      · have HE := Keep.mk (show doneJ (t, 0) = (t, 0) by rw [HD.out, if_neg (by simp), if_neg hbig])
        clear HD
        have x0 := HT.out.x.cell 0 _ rfl
        have x1 := HT.out.x.cell 1 _ rfl
        have x2 := HT.out.x.cell 2 _ rfl
        have x3 := HT.out.x.cell 3 _ rfl
        have x4 := HT.out.x.cell 4 _ rfl
        have x5 := HT.out.x.cell 5 _ rfl
        have xl := HT.out.x.lt
        have r0 := HR.out.cell 0 _ rfl
        have f0 := HR.out.froz 0
        have r1 := HR.out.cell 1 _ rfl
        have f1 := HR.out.froz 1
        have r2 := HR.out.cell 2 _ rfl
        have f2 := HR.out.froz 2
        have r3 := HR.out.cell 3 _ rfl
        have f3 := HR.out.froz 3
        have r4 := HR.out.cell 4 _ rfl
        have f4 := HR.out.froz 4
        have r5 := HR.out.cell 5 _ rfl
        have f5 := HR.out.froz 5
        have rl := HR.out.lt
        go_wp2
        refine bodyPost_ret (v := .tuple #[.agg #[.int .i64 k, .int .i64 m, .int .i64 x, .string s, .slice A n c, .slice A' n' c'], .int .i64 0]) ?_ rfl ⟨_, by rw [HE.out], by rw [HE.out]; exact HJS.out _ (HT.out.b.trans (six_below w2 (w.heap.size + 1) (.int .i64 k) (.int .i64 m) (.int .i64 x) (.string s) (.slice A n c) (.slice A' n' c') (by omega))), HT.out.b.trans (six_below w2 (w.heap.size + 1) (.int .i64 k) (.int .i64 m) (.int .i64 x) (.string s) (.slice A n c) (.slice A' n' c') (by omega))⟩
        simp [results, Tryz.results34, go_sem, r0, r1, r2, r3, r4, r5]
    · have HE := Keep.mk (show doneJ (t, 0) = (zeroJ, rr) by rw [HD.out, if_pos h0])
      have hr2 : (rr == 0) = false := by simpa using h0
      clear HD h0 HTX HPT HSM
      have r0 := HR.out.cell 0 _ rfl
      have f0 := HR.out.froz 0
      have r1 := HR.out.cell 1 _ rfl
      have f1 := HR.out.froz 1
      have r2 := HR.out.cell 2 _ rfl
      have f2 := HR.out.froz 2
      have r3 := HR.out.cell 3 _ rfl
      have f3 := HR.out.froz 3
      have r4 := HR.out.cell 4 _ rfl
      have f4 := HR.out.froz 4
      have r5 := HR.out.cell 5 _ rfl
      have f5 := HR.out.froz 5
      have rl := HR.out.lt
      go_wp2
      refine bodyPost_ret (v := .tuple #[.agg #[.int .i64 0, .int .i64 0, .int .i64 0, .string ⟨#[]⟩, .slice none 0 0, .slice none 0 0], .int .i64 rr]) ?_ rfl ⟨zero6, by rw [HE.out]; rfl, by rw [HE.out]; exact zero_in _ _, HT.out.b.trans (six_below w1 (w.heap.size + 1) (.int .i64 0) (.int .i64 0) (.int .i64 0) (.string ⟨#[]⟩) (.slice none 0 0) (.slice none 0 0) (by omega))⟩
      simp [results, Tryz.results34, go_sem, r0, r1, r2, r3, r4, r5]
  · have HD := Keep.mk (show doneJ (t, e) = (zeroJ, e) by unfold doneJ; rw [if_pos he])
    have he2 : (e == 0) = false := by simpa using he
    clear hz he
    go_enter Tryz.func34, Tryz.ntmps34
    go_wp2
    refine bodyPost_ret (v := .tuple #[.agg #[.int .i64 0, .int .i64 0, .int .i64 0, .string ⟨#[]⟩, .slice none 0 0, .slice none 0 0], .int .i64 e]) ?_ rfl ⟨zero6, by rw [HD.out]; rfl, by rw [HD.out]; exact zero_in _ _, al2 _ _ _⟩
    simp [results, Tryz.results34, go_sem]
set_option maxRecDepth 100000 in
theorem ref12_whole (n : Nat) (hn : n < 1000000000000000000) (w : World) :
    Calls Tryz.prog 53 #[.int .i64 n] w fun r w' => r = .returned (.agg #[.int .i64 3, .int .i64 (wholeN n).1, .int .i64 (wholeN n).2, .string ⟨#[]⟩, .slice none 0 0, .slice none 0 0]) ∧ Below w.heap.size w w' := by
  have HN := Keep.mk hn
  go_enter Tryz.func53, Tryz.ntmps53
  go_upto_region 1 with fail
  refine wp_world (fun W => Box W w.heap.size zero6 ∧ Below w.heap.size w W) ⟨Box.new zero6 _ rfl, al1 _ _⟩ ?_
  rintro W0 ⟨HR, HB⟩
  replace HR := Keep.mk HR
  replace HB := Keep.mk HB
  go_wp2_with fail
  refine (ref12_number n 0 _).mono ?_
  rintro r w1 ⟨rfl, hb1⟩
  replace HR := Keep.mk (HR.out.below hb1 HR.out.lt)
  replace HB := Keep.mk (up HB.out hb1)
  clear hb1
  have hwp : w.heap.size ≠ w1.heap.size := by have := HR.out.lt; omega
  have hwle := HB.out.size
  go_wp2_with fail
  go_loopg [] n (fun gk wr => ∃ e : Nat, gk ≤ n ∧ Keep (gk * 10 ^ e = n) ∧ Keep (gk = 0 → e = 0) ∧ Keep (Box wr w1.heap.size (cells6 3 gk e ⟨#[]⟩ none 0 0 none 0 0)) ∧ Keep (Box wr w.heap.size zero6) ∧ Keep (Below w.heap.size w wr))
  case atStart => exact ⟨0, Nat.le_refl _, ⟨by simp⟩, ⟨fun _ => rfl⟩, ⟨Box.new (cells6 3 n 0 ⟨#[]⟩ none 0 0 none 0 0) _ rfl⟩, ⟨HR.out.alloc _⟩, ⟨up HB.out (al1 _ _)⟩⟩
  case round =>
    clear HR HB
    obtain ⟨e, hgn, HE, H0, HO, HR2, HB2⟩ := hrel
    have o0 := HO.out.cell 0 _ rfl
    have of0 := HO.out.froz 0
    have o1 := HO.out.cell 1 _ rfl
    have of1 := HO.out.froz 1
    have o2 := HO.out.cell 2 _ rfl
    have of2 := HO.out.froz 2
    have o3 := HO.out.cell 3 _ rfl
    have of3 := HO.out.froz 3
    have o4 := HO.out.cell 4 _ rfl
    have of4 := HO.out.froz 4
    have o5 := HO.out.cell 5 _ rfl
    have of5 := HO.out.froz 5
    have ol := HO.out.lt
    by_cases h0 : gk = 0
    · subst h0
      obtain rfl : e = 0 := H0.out rfl
      have HW := Keep.mk (whole_of n 0 0 HN.out HE.out (Or.inr ⟨rfl, rfl⟩))
      obtain rfl : 0 = n := by have := HE.out; omega
      clear HE H0 hn
      have r0 := HR2.out.cell 0 _ rfl
      have rf0 := HR2.out.froz 0
      have r1 := HR2.out.cell 1 _ rfl
      have rf1 := HR2.out.froz 1
      have r2 := HR2.out.cell 2 _ rfl
      have rf2 := HR2.out.froz 2
      have r3 := HR2.out.cell 3 _ rfl
      have rf3 := HR2.out.froz 3
      have r4 := HR2.out.cell 4 _ rfl
      have rf4 := HR2.out.froz 4
      have r5 := HR2.out.cell 5 _ rfl
      have rf5 := HR2.out.froz 5
      have rl := HR2.out.lt
      go_wp2
      refine bodyPost_ret (v := .agg #[.int .i64 3, .int .i64 0, .int .i64 0, .string ⟨#[]⟩, .slice none 0 0, .slice none 0 0]) ?_ rfl ⟨by rw [HW.out]; rfl, HB2.out.trans (six_below wr w.heap.size (.int .i64 3) (.int .i64 0) (.int .i64 0) (.string ⟨#[]⟩) (.slice none 0 0) (.slice none 0 0) (Nat.le_refl _))⟩
      simp [results, Tryz.results53, go_sem, r0, r1, r2, r3, r4, r5]
    · have he := exp_le n gk e HN.out HE.out h0
      have hnn : n ≠ 0 := by have := HE.out; intro h; rw [h] at hgn; omega
      have b0 : ((n : Int) == 0) = false := by rw [beq_eq_false_iff_ne]; omega
      by_cases h1 : gk % 10 = 0
      · have hm : ((gk : Int) % 10 == 0) = true := by rw [beq_iff_eq]; omega
        have HE2 := Keep.mk (show gk / 10 * 10 ^ (e + 1) = n by rw [Nat.pow_succ, Nat.mul_comm (10 ^ e) 10, ← Nat.mul_assoc, Nat.div_mul_cancel (Nat.dvd_of_mod_eq_zero h1)]; exact HE.out)
        clear HE H0
        go_wp2
        go_roundg (gk / 10)
        case rel => exact ⟨e + 1, by omega, HE2, ⟨fun h => by omega⟩, ⟨(HO.out.set (i := 1) (by simp [cells6]) (.int .i64 ((gk / 10 : Nat) : Int))).set (i := 2) (by simp [cells6]) (.int .i64 ((e + 1 : Nat) : Int))⟩, ⟨(HR2.out.other hwp.symm _).other hwp.symm _⟩, ⟨(HB2.out.trans (below_set (by omega) _)).trans (below_set (by omega) _)⟩⟩
        case measure => omega
      · have HW := Keep.mk (whole_of n gk e HN.out HE.out (Or.inl h1))
        have hm : ((gk : Int) % 10 == 0) = false := by rw [beq_eq_false_iff_ne]; omega
        clear HE H0 hn
        have r0 := HR2.out.cell 0 _ rfl
        have rf0 := HR2.out.froz 0
        have r1 := HR2.out.cell 1 _ rfl
        have rf1 := HR2.out.froz 1
        have r2 := HR2.out.cell 2 _ rfl
        have rf2 := HR2.out.froz 2
        have r3 := HR2.out.cell 3 _ rfl
        have rf3 := HR2.out.froz 3
        have r4 := HR2.out.cell 4 _ rfl
        have rf4 := HR2.out.froz 4
        have r5 := HR2.out.cell 5 _ rfl
        have rf5 := HR2.out.froz 5
        have rl := HR2.out.lt
        go_wp2
        refine bodyPost_ret (v := .agg #[.int .i64 3, .int .i64 gk, .int .i64 e, .string ⟨#[]⟩, .slice none 0 0, .slice none 0 0]) ?_ rfl ⟨by rw [HW.out], HB2.out.trans (six_below wr w.heap.size (.int .i64 3) (.int .i64 gk) (.int .i64 e) (.string ⟨#[]⟩) (.slice none 0 0) (.slice none 0 0) (Nat.le_refl _))⟩
        simp [results, Tryz.results53, go_sem, r0, r1, r2, r3, r4, r5]
end Go.Proofs.YtnkokhpadcgfbaaGreatDoor
