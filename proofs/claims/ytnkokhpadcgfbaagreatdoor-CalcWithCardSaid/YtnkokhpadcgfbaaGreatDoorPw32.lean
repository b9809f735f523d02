/- Lemmas and contracts for the laws CalcWith, part 32 of 50: CalcA, LenMathB, LawPrints. Conditions: those that each lemma names. -/
import Derived.Test.YtnkokhpadcgfbaaGreatDoorPw31
import Derived.Test.YtnkokhpadcgfbaaGreatDoorPw26
import Derived.Test.YtnkokhpadcgfbaaGreatDoorPw30
import Derived.Test.YtnkokhpadcgfbaaGreatDoorPw28
import Derived.Test.YtnkokhpadcgfbaaGreatDoorPw5
import Derived.Test.YtnkokhpadcgfbaaGreatDoorPw23
import Derived.Lib.RuneCount
import Derived.Outline
namespace Go.Proofs.YtnkokhpadcgfbaaGreatDoor
open Go Go.RowKit Go.Proofs Th
attribute [local go_sem] Above.cell
set_option maxRecDepth 100000 in
theorem calc_digit (m e : Int) (w : World) : Calls Tryz.prog 44 #[.agg #[.int .i64 m, .int .i64 e]] w fun r w' => r = .returned (.agg #[.int .i64 3, .int .i64 m, .int .i64 e, .string ⟨#[]⟩, .slice none 0 0, .slice none 0 0]) ∧ Below w.heap.size w w' := by
  go_enter Tryz.func44, Tryz.ntmps44
  go_wp2
  refine bodyPost_ret (v := .agg #[.int .i64 3, .int .i64 m, .int .i64 e, .string ⟨#[]⟩, .slice none 0 0, .slice none 0 0]) ?_ rfl ⟨rfl, al2 _ _ _⟩
  simp [results, Tryz.results44, go_sem]
set_option maxRecDepth 100000 in
theorem calc_text (s : ByteArray) (w : World) : Calls Tryz.prog 38 #[.string s] w fun r w' => r = .returned (.agg #[.int .i64 4, .int .i64 0, .int .i64 0, .string s, .slice none 0 0, .slice none 0 0]) ∧ Below w.heap.size w w' := by
  go_enter Tryz.func38, Tryz.ntmps38
  go_wp2
  refine bodyPost_ret (v := .agg #[.int .i64 4, .int .i64 0, .int .i64 0, .string s, .slice none 0 0, .slice none 0 0]) ?_ rfl ⟨rfl, al1 _ _⟩
  simp [results, Tryz.results38, go_sem]
set_option maxRecDepth 100000 in
theorem law_text (s : ByteArray) (w : World) : Calls Tryz.prog 19 #[.string s] w fun r w' => r = .returned (.agg #[.int .i64 4, .int .i64 0, .int .i64 0, .string s, .slice none 0 0, .slice none 0 0]) ∧ Below w.heap.size w w' := by
  go_enter Tryz.func19, Tryz.ntmps19
  go_wp2
  refine bodyPost_ret (v := .agg #[.int .i64 4, .int .i64 0, .int .i64 0, .string s, .slice none 0 0, .slice none 0 0]) ?_ rfl ⟨rfl, al1 _ _⟩
  simp [results, Tryz.results19, go_sem]
set_option maxRecDepth 100000 in
theorem law_digit (m : Int) (w : World) : Calls Tryz.prog 20 #[.int .i64 m] w fun r w' => r = .returned (.agg #[.int .i64 3, .int .i64 m, .int .i64 0, .string ⟨#[]⟩, .slice none 0 0, .slice none 0 0]) ∧ Below w.heap.size w w' := by
  go_enter Tryz.func20, Tryz.ntmps20
  go_wp2
  refine bodyPost_ret (v := .agg #[.int .i64 3, .int .i64 m, .int .i64 0, .string ⟨#[]⟩, .slice none 0 0, .slice none 0 0]) ?_ rfl ⟨rfl, al1 _ _⟩
  simp [results, Tryz.results20, go_sem]
set_option maxRecDepth 100000 in
theorem calc_list (A : Option Addr) (n c : Nat) (w : World) : Calls Tryz.prog 60 #[.slice A n c] w fun r w' => r = .returned (.agg #[.int .i64 5, .int .i64 0, .int .i64 0, .string ⟨#[]⟩, .slice A n c, .slice none 0 0]) ∧ Below w.heap.size w w' := by
  go_enter Tryz.func60, Tryz.ntmps60
  go_wp2
  refine bodyPost_ret (v := .agg #[.int .i64 5, .int .i64 0, .int .i64 0, .string ⟨#[]⟩, .slice A n c, .slice none 0 0]) ?_ rfl ⟨rfl, al1 _ _⟩
  simp [results, Tryz.results60, go_sem]
set_option maxRecDepth 100000 in
theorem calc_truth (b : Bool) (w : World) : Calls Tryz.prog 31 #[.bool b] w fun r w' => r = .returned (.agg #[.int .i64 (if b then 2 else 1), .int .i64 0, .int .i64 0, .string ⟨#[]⟩, .slice none 0 0, .slice none 0 0]) ∧ Below w.heap.size w w' := by
  cases b
  · go_enter Tryz.func31, Tryz.ntmps31
    go_wp2
    refine bodyPost_ret (v := .agg #[.int .i64 1, .int .i64 0, .int .i64 0, .string ⟨#[]⟩, .slice none 0 0, .slice none 0 0]) ?_ rfl ⟨rfl, al1 _ _⟩
    simp [results, Tryz.results31, go_sem]
  · go_enter Tryz.func31, Tryz.ntmps31
    go_wp2
    refine bodyPost_ret (v := .agg #[.int .i64 2, .int .i64 0, .int .i64 0, .string ⟨#[]⟩, .slice none 0 0, .slice none 0 0]) ?_ rfl ⟨rfl, al1 _ _⟩
    simp [results, Tryz.results31, go_sem]
theorem truth_in (W : World) (S : Nat → Prop) (b : Bool) : JIn W S (truthV b) (cells6 (if b then 2 else 1) 0 0 ⟨#[]⟩ none 0 0 none 0 0) := by
  cases b
  · exact JIn.shut (l := []) (ks := []) ⟨by decide, by decide⟩ ⟨by decide, by decide⟩ ⟨by decide, by decide⟩ (by decide) (StrsIn.none_ _ _) (ValsIn.none_ _ _)
  · exact JIn.shut (l := []) (ks := []) ⟨by decide, by decide⟩ ⟨by decide, by decide⟩ ⟨by decide, by decide⟩ (by decide) (StrsIn.none_ _ _) (ValsIn.none_ _ _)
structure OneB (w W : World) (cs : List Value) : Prop where
  x : Box W w.heap.size cs
  b : Below w.heap.size w W
theorem OneB.below {w W W' : World} {cs : List Value} (h : OneB w W cs) (hb : Below W.heap.size W W') : OneB w W' cs := ⟨h.x.below hb h.x.lt, up h.b hb⟩
theorem OneB.new (w : World) (k m e : Int) (s : ByteArray) (A : Option Addr) (n c : Nat) (A' : Option Addr) (n' c' : Nat) (t : TypeId) :
    OneB w (w.alloc (.cells #[.int .i64 k, .int .i64 m, .int .i64 e, .string s, .slice A n c, .slice A' n' c'] t)) (cells6 k m e s A n c A' n' c') :=
  ⟨Box.new (cells6 k m e s A n c A' n' c') t rfl, al1 _ _⟩
theorem JIn.jat {w w1 : World} {t : JV} {cs : List Value} (h : JIn w1 (newIn w w1) t cs) : JAt w1 w1.heap.size t cs := h.at fun _ hg => hg.2
set_option maxRecDepth 100000 in
theorem calc_done (t : JV) (e : Int) (hz : e = 0 → sizeJ t ≤ 1000000) (w : World) (cs : List Value) (hG : GlobW w) (hJ : JAt w w.heap.size t cs) :
    Calls Tryz.prog 23 #[.agg cs.toArray, .int .i64 e] w fun r w' => ∃ cs', r = .returned (.tuple #[.agg (List.toArray cs'), .int .i64 (doneJ (t, e)).2]) ∧ JIn w' (newIn w w') (doneJ (t, e)).1 cs' ∧ Below w.heap.size w w' := by
  obtain ⟨k, m, x, s, A, n, c, A', n', c', rfl⟩ := hJ.inn.cells
  have HJ := Keep.mk hJ
  have HG := Keep.mk (fun W (hb : Below w.heap.size w W) => hG.below hb)
  have HT := Keep.mk (OneB.new w k m x s A n c A' n' c' 27)
  clear hJ hG
  show Calls _ _ #[.agg #[.int .i64 k, .int .i64 m, .int .i64 x, .string s, .slice A n c, .slice A' n' c'], .int .i64 e] w _
  by_cases he : e = 0
  · subst he
    have HS := Keep.mk (write_Size t (hz rfl))
    have HC := Keep.mk (value_Copy _ t (Nat.le_refl _) (hz rfl))
    obtain ⟨ln, hln⟩ : ∃ ln : Nat, (printJ t).length = ln := ⟨_, rfl⟩
    obtain ⟨z, hzz⟩ : ∃ z : Int, (ln : Int) = z := ⟨_, rfl⟩
    have HD := Keep.mk (show doneJ (t, 0) = if rightJ t ≠ 0 then (zeroJ, rightJ t) else if 16384 < ln then (zeroJ, 3) else (t, 0) by unfold doneJ; rw [if_neg (by simp), hln])
    rw [hln, hzz] at HS
    have HZ := Keep.mk (show ((16384 < z) ↔ (16384 < ln)) ∧ (rightJ t ≠ 0 → z = 0) by
      refine ⟨by omega, fun h => ?_⟩
      have : printJ t = [] := by unfold printJ; rw [if_neg h]
      rw [this] at hln
      simp at hln
      omega)
    generalize rightJ t = rr at *
    clear hz hln hzz
    go_enter Tryz.func23, Tryz.ntmps23
    go_upto_region 1 with fail
    refine wp_world (fun W => OneB w W (cells6 k m x s A n c A' n' c') ∧ Box W (w.heap.size + 1) zero6) ⟨HT.out.below (al1 _ _), Box.new zero6 _ (by simp)⟩ ?_
    clear HT
    rintro W0 ⟨HT, HR⟩
    replace HT := Keep.mk HT
    replace HR := Keep.mk HR
    have x0 := HT.out.x.cell 0 _ rfl
    have x1 := HT.out.x.cell 1 _ rfl
    have x2 := HT.out.x.cell 2 _ rfl
    have x3 := HT.out.x.cell 3 _ rfl
    have x4 := HT.out.x.cell 4 _ rfl
    have x5 := HT.out.x.cell 5 _ rfl
    have xl := HT.out.x.lt
    go_wp2_with fail
    refine (HS.out W0 _ (HG.out W0 HT.out.b) (HJ.out.up HT.out.b)).mono ?_
    rintro r w1 ⟨rfl, hb1⟩
    clear x0 x1 x2 x3 x4 x5 xl
    replace HR := Keep.mk (HR.out.below hb1 HR.out.lt)
    replace HT := Keep.mk (HT.out.below hb1)
    clear hb1
    have hrb := HR.out
    have rl := hrb.lt
    have r0 := hrb.cell 0 _ rfl
    have r1 := hrb.cell 1 _ rfl
    have r2 := hrb.cell 2 _ rfl
    have r3 := hrb.cell 3 _ rfl
    have r4 := hrb.cell 4 _ rfl
    have r5 := hrb.cell 5 _ rfl
    have f0 := hrb.froz 0
    have f1 := hrb.froz 1
    have f2 := hrb.froz 2
    have f3 := hrb.froz 3
    have f4 := hrb.froz 4
    have f5 := hrb.froz 5
    by_cases hrr : rr = 0
    · subst hrr
      by_cases hbig : 16384 < z
      · have HE := Keep.mk (show doneJ (t, 0) = (zeroJ, 3) by rw [HD.out, if_neg (by simp), if_pos (HZ.out.1.1 hbig)])
        clear HD HZ hrb
        go_wp2
        refine bodyPost_ret (v := .tuple #[.agg #[.int .i64 0, .int .i64 0, .int .i64 0, .string ⟨#[]⟩, .slice none 0 0, .slice none 0 0], .int .i64 3]) ?_ rfl ⟨zero6, by rw [HE.out]; rfl, by rw [HE.out]; exact zero_in _ _, (by exact HT.out.b.trans (six_below w1 (w.heap.size + 1) (.int .i64 0) (.int .i64 0) (.int .i64 0) (.string ⟨#[]⟩) (.slice none 0 0) (.slice none 0 0) (by omega)))⟩
        simp [results, Tryz.results23, go_sem, r0, r1, r2, r3, r4, r5]
      · have HE := Keep.mk (show doneJ (t, 0) = (t, 0) by rw [HD.out, if_neg (by simp), if_neg (fun h => hbig (HZ.out.1.2 h))])
        clear HD HZ
        have x0 := HT.out.x.cell 0 _ rfl
        have x1 := HT.out.x.cell 1 _ rfl
        have x2 := HT.out.x.cell 2 _ rfl
        have x3 := HT.out.x.cell 3 _ rfl
        have x4 := HT.out.x.cell 4 _ rfl
        have x5 := HT.out.x.cell 5 _ rfl
        have xl := HT.out.x.lt
        go_wp2_with fail
        refine (HC.out w1 _ (HJ.out.up HT.out.b)).mono ?_
        rintro r w2 ⟨cs', hr, hj, hb2⟩
        obtain ⟨k9, m9, e9, s9, A9, n9, c9, A8, n8, c8, rfl⟩ := hj.cells
        have hr : r = .returned (.agg #[.int .i64 k9, .int .i64 m9, .int .i64 e9, .string s9, .slice A9 n9 c9, .slice A8 n8 c8]) := hr
        subst hr
        have hj2 := Keep.mk hj
        have hrb2 := hrb.below hb2 hrb.lt
        clear r0 r1 r2 r3 r4 r5 f0 f1 f2 f3 f4 f5 x0 x1 x2 x3 x4 x5 xl hj rl
        have r0 := hrb2.cell 0 _ rfl
        have f0 := hrb2.froz 0
        have r1 := hrb2.cell 1 _ rfl
        have f1 := hrb2.froz 1
        have r2 := hrb2.cell 2 _ rfl
        have f2 := hrb2.froz 2
        have r3 := hrb2.cell 3 _ rfl
        have f3 := hrb2.froz 3
        have r4 := hrb2.cell 4 _ rfl
        have f4 := hrb2.froz 4
        have r5 := hrb2.cell 5 _ rfl
        have f5 := hrb2.froz 5
        have rl := hrb2.lt
        have rl1 := hrb.lt
        have HB2 := Keep.mk (HT.out.b.trans (hb2.mono HT.out.b.size))
        clear hrb hrb2 hb2
        go_wp2
        refine bodyPost_ret (v := .tuple #[.agg #[.int .i64 k9, .int .i64 m9, .int .i64 e9, .string s9, .slice A9 n9 c9, .slice A8 n8 c8], .int .i64 0]) ?_ rfl ⟨_, by rw [HE.out], by rw [HE.out]; exact hj2.out.keep (fun g hg => six_other w2 (w.heap.size + 1) _ _ _ _ _ _ g (by have := hg.1; omega)) (fun g hg => ⟨Nat.le_trans (by omega) hg.1, by simpa using hg.2⟩), HB2.out.trans (six_below w2 (w.heap.size + 1) (.int .i64 k9) (.int .i64 m9) (.int .i64 e9) (.string s9) (.slice A9 n9 c9) (.slice A8 n8 c8) (by omega))⟩
        simp [results, Tryz.results23, go_sem, r0, r1, r2, r3, r4, r5]
    · have HE := Keep.mk (show doneJ (t, 0) = (zeroJ, rr) by rw [HD.out, if_pos hrr])
      obtain rfl := HZ.out.2 hrr
      have hr2 : (rr == 0) = false := by simpa using hrr
      clear HD HZ hrr hrb
      go_wp2
      refine bodyPost_ret (v := .tuple #[.agg #[.int .i64 0, .int .i64 0, .int .i64 0, .string ⟨#[]⟩, .slice none 0 0, .slice none 0 0], .int .i64 rr]) ?_ rfl ⟨zero6, by rw [HE.out]; rfl, by rw [HE.out]; exact zero_in _ _, (by exact HT.out.b.trans (six_below w1 (w.heap.size + 1) (.int .i64 0) (.int .i64 0) (.int .i64 0) (.string ⟨#[]⟩) (.slice none 0 0) (.slice none 0 0) (by omega)))⟩
      simp [results, Tryz.results23, go_sem, r0, r1, r2, r3, r4, r5]
  · have HD := Keep.mk (show doneJ (t, e) = (zeroJ, e) by unfold doneJ; rw [if_pos he])
    have he2 : (e == 0) = false := by simpa using he
    clear hz he
    go_enter Tryz.func23, Tryz.ntmps23
    go_wp2
    refine bodyPost_ret (v := .tuple #[.agg #[.int .i64 0, .int .i64 0, .int .i64 0, .string ⟨#[]⟩, .slice none 0 0, .slice none 0 0], .int .i64 e]) ?_ rfl ⟨zero6, by rw [HD.out]; rfl, by rw [HD.out]; exact zero_in _ _, al2 _ _ _⟩
    simp [results, Tryz.results23, go_sem]
end Go.Proofs.YtnkokhpadcgfbaaGreatDoor
namespace Th
open Go Go.Lib
end Th
namespace Go.Proofs.YtnkokhpadcgfbaaGreatDoor
open Go Go.RowKit Go.Proofs Th
theorem badL_two (a b : JV) : badL [a, b] = if rightJ a ≠ 0 then rightJ a else if rightJ b ≠ 0 then rightJ b else 0 := rfl
theorem done_ok {p : JV × Int} (h : (doneJ p).2 = 0) : doneJ p = p ∧ p.2 = 0 ∧ rightJ p.1 = 0 := by
  unfold doneJ at *
  by_cases h1 : p.2 ≠ 0
  · rw [if_pos h1] at h; exact absurd h h1
  · rw [if_neg h1] at h ⊢
    by_cases h2 : rightJ p.1 ≠ 0
    · rw [if_pos h2] at h; exact absurd h h2
    · rw [if_neg h2] at h ⊢
      by_cases h3 : 16384 < (printJ p.1).length
      · rw [if_pos h3] at h; cases h
      · rw [if_neg h3]
        exact ⟨rfl, by omega, by omega⟩
theorem size_parts (a : JV) : sizeJ a = 1 + a.s.size + keysN a.ks + sizeL a.l := by
  obtain ⟨k, m, e, s, l, ks⟩ := a
  rfl
theorem done_whole (n : Nat) (h : n < 1000000000000000000) : doneJ (digV (wholeN n), 0) = (digV (wholeN n), 0) := by
  have hr : rightJ (digV (wholeN n)) = 0 := by
    obtain ⟨m, k, _, e, hk, hf, hm⟩ := whole_form n h
    unfold wholeN
    rw [e]
    unfold rightJ
    rw [show depthJ (digV ((m : Int), (k : Int))) = 1 from rfl, if_neg (by decide)]
    rw [show allJ (digV ((m : Int), (k : Int))) = okOne (digV ((m : Int), (k : Int))) by rw [show allJ (digV ((m : Int), (k : Int))) = (okOne (digV ((m : Int), (k : Int))) && allL []) from rfl, show allL [] = true from rfl, Bool.and_true]]
    rw [show okOne (digV ((m : Int), (k : Int))) = right (m : Int) (k : Int) by
      show okOne (.mk 3 (m : Int) (k : Int) ⟨#[]⟩ [] []) = _
      simp [okOne, validD_nil, riseK]
      exact fun _ => rfl]
    rw [right_of_form hk hf hm]; rfl
  have hl : (printJ (digV (wholeN n))).length ≤ 4000 := by
    unfold printJ
    rw [if_pos hr]
    have := textJ_len _ (right_ok hr).1
    exact this
  have hl2 : ¬ 16384 < (printJ (digV (wholeN n), (0 : Int)).1).length := by show ¬ 16384 < (printJ (digV (wholeN n))).length; omega
  unfold doneJ
  rw [if_neg (by simp), if_neg (by rw [hr]; decide), if_neg hl2]
end Go.Proofs.YtnkokhpadcgfbaaGreatDoor
namespace Go.Proofs.YtnkokhpadcgfbaaGreatDoor
open Go Go.RowKit Go.Proofs Th
attribute [local go_sem] Above.cell
mutual
theorem countJ_le : ∀ t : JV, countJ t ≤ sizeJ t
  | .mk _ _ _ s l ks => by
    have := countL_le l
    simp only [countJ, sizeJ]; omega
theorem countL_le : ∀ l : List JV, countL l ≤ sizeL l
  | [] => Nat.le_refl _
  | v :: r => by
    have := countJ_le v
    have := countL_le r
    simp only [countL, sizeL]; omega
end
end Go.Proofs.YtnkokhpadcgfbaaGreatDoor
