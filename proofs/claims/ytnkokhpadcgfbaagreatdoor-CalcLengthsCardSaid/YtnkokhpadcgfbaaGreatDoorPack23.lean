/- Lemmas and contracts for the laws CalcLengths, part 23 of 37: CalcA, LenMathB. Conditions: those that each lemma names. -/
import Derived.Test.YtnkokhpadcgfbaaGreatDoorPack22
import Derived.Test.YtnkokhpadcgfbaaGreatDoorPack18
import Derived.Test.YtnkokhpadcgfbaaGreatDoorPack21
import Derived.Test.YtnkokhpadcgfbaaGreatDoorPack20
import Derived.Test.YtnkokhpadcgfbaaGreatDoorPack4
import Derived.Test.YtnkokhpadcgfbaaGreatDoorPack17
import Derived.Lib.RuneCount
namespace Go.Proofs.YtnkokhpadcgfbaaGreatDoor
open Go Go.RowKit Go.Proofs Th
attribute [local go_sem] Above.cell
set_option maxRecDepth 100000 in
theorem calc_digit (m e : Int) (w : World) : Calls Tryz.prog 44 #[.agg #[.int .i64 m, .int .i64 e]] w fun r w' => r = .returned (.agg #[.int .i64 3, .int .i64 m, .int .i64 e, .string ⟨#[]⟩, .slice none 0 0, .slice none 0 0]) ∧ Below w.heap.size w w' := by
  go_enter Tryz.func44, Tryz.ntmps44
  go_wp2
  refine bodyPost_ret (v := .agg #[.int .i64 3, .int .i64 m, .int .i64 e, .string ⟨#[]⟩, .slice none 0 0, .slice none 0 0]) ?_ rfl ⟨rfl, al2 _ _ _⟩
  simp [results, Tryz.results44, go_sem]
set_option maxRecDepth 100000 in
theorem calc_text (s : ByteArray) (w : World) : Calls Tryz.prog 38 #[.string s] w fun r w' => r = .returned (.agg #[.int .i64 4, .int .i64 0, .int .i64 0, .string s, .slice none 0 0, .slice none 0 0]) ∧ Below w.heap.size w w' := by
  go_enter Tryz.func38, Tryz.ntmps38
  go_wp2
  refine bodyPost_ret (v := .agg #[.int .i64 4, .int .i64 0, .int .i64 0, .string s, .slice none 0 0, .slice none 0 0]) ?_ rfl ⟨rfl, al1 _ _⟩
  simp [results, Tryz.results38, go_sem]
set_option maxRecDepth 100000 in
theorem law_text (s : ByteArray) (w : World) : Calls Tryz.prog 19 #[.string s] w fun r w' => r = .returned (.agg #[.int .i64 4, .int .i64 0, .int .i64 0, .string s, .slice none 0 0, .slice none 0 0]) ∧ Below w.heap.size w w' := by
  go_enter Tryz.func19, Tryz.ntmps19
  go_wp2
  refine bodyPost_ret (v := .agg #[.int .i64 4, .int .i64 0, .int .i64 0, .string s, .slice none 0 0, .slice none 0 0]) ?_ rfl ⟨rfl, al1 _ _⟩
  simp [results, Tryz.results19, go_sem]
set_option maxRecDepth 100000 in
theorem law_digit (m : Int) (w : World) : Calls Tryz.prog 20 #[.int .i64 m] w fun r w' => r = .returned (.agg #[.int .i64 3, .int .i64 m, .int .i64 0, .string ⟨#[]⟩, .slice none 0 0, .slice none 0 0]) ∧ Below w.heap.size w w' := by
  go_enter Tryz.func20, Tryz.ntmps20
  go_wp2
  refine bodyPost_ret (v := .agg #[.int .i64 3, .int .i64 m, .int .i64 0, .string ⟨#[]⟩, .slice none 0 0, .slice none 0 0]) ?_ rfl ⟨rfl, al1 _ _⟩
  simp [results, Tryz.results20, go_sem]
set_option maxRecDepth 100000 in
theorem calc_list (A : Option Addr) (n c : Nat) (w : World) : Calls Tryz.prog 60 #[.slice A n c] w fun r w' => r = .returned (.agg #[.int .i64 5, .int .i64 0, .int .i64 0, .string ⟨#[]⟩, .slice A n c, .slice none 0 0]) ∧ Below w.heap.size w w' := by
  go_enter Tryz.func60, Tryz.ntmps60
  go_wp2
  refine bodyPost_ret (v := .agg #[.int .i64 5, .int .i64 0, .int .i64 0, .string ⟨#[]⟩, .slice A n c, .slice none 0 0]) ?_ rfl ⟨rfl, al1 _ _⟩
  simp [results, Tryz.results60, go_sem]
structure OneB (w W : World) (cs : List Value) : Prop where
  x : Box W w.heap.size cs
  b : Below w.heap.size w W
theorem OneB.below {w W W' : World} {cs : List Value} (h : OneB w W cs) (hb : Below W.heap.size W W') : OneB w W' cs := ⟨h.x.below hb h.x.lt, up h.b hb⟩
theorem OneB.new (w : World) (k m e : Int) (s : ByteArray) (A : Option Addr) (n c : Nat) (A' : Option Addr) (n' c' : Nat) (t : TypeId) :
    OneB w (w.alloc (.cells #[.int .i64 k, .int .i64 m, .int .i64 e, .string s, .slice A n c, .slice A' n' c'] t)) (cells6 k m e s A n c A' n' c') :=
  ⟨Box.new (cells6 k m e s A n c A' n' c') t rfl, al1 _ _⟩
theorem JIn.jat {w w1 : World} {t : JV} {cs : List Value} (h : JIn w1 (newIn w w1) t cs) : JAt w1 w1.heap.size t cs := h.at fun _ hg => hg.2
set_option maxRecDepth 100000 in
theorem calc_done (t : JV) (e : Int) (hz : e = 0 → sizeJ t ≤ 1000000) (w : World) (cs : List Value) (hG : GlobW w) (hJ : JAt w w.heap.size t cs) :
    Calls Tryz.prog 23 #[.agg cs.toArray, .int .i64 e] w fun r w' => ∃ cs', r = .returned (.tuple #[.agg (List.toArray cs'), .int .i64 (doneJ (t, e)).2]) ∧ JIn w' (newIn w w') (doneJ (t, e)).1 cs' ∧ Below w.heap.size w w' := by
  obtain ⟨k, m, x, s, A, n, c, A', n', c', rfl⟩ := hJ.inn.cells
  have HJ := Keep.mk hJ
  have HG := Keep.mk (fun W (hb : Below w.heap.size w W) => hG.below hb)
  have HT := Keep.mk (OneB.new w k m x s A n c A' n' c' 27)
  clear hJ hG
  show Calls _ _ #[.agg #[.int .i64 k, .int .i64 m, .int .i64 x, .string s, .slice A n c, .slice A' n' c'], .int .i64 e] w _
  by_cases he : e = 0
  · subst he
    have HS := Keep.mk (write_Size t (hz rfl))
    have HC := Keep.mk (value_Copy _ t (Nat.le_refl _) (hz rfl))
    obtain ⟨ln, hln⟩ : ∃ ln : Nat, (printJ t).length = ln := ⟨_, rfl⟩
    obtain ⟨z, hzz⟩ : ∃ z : Int, (ln : Int) = z := ⟨_, rfl⟩
    have HD := Keep.mk (show doneJ (t, 0) = if rightJ t ≠ 0 then (zeroJ, rightJ t) else if 16384 < ln then (zeroJ, 3) else (t, 0) by unfold doneJ; rw [if_neg (by simp), hln])
    rw [hln, hzz] at HS
    have HZ := Keep.mk (show ((16384 < z) ↔ (16384 < ln)) ∧ (rightJ t ≠ 0 → z = 0) by
      refine ⟨by omega, fun h => ?_⟩
      have : printJ t = [] := by unfold printJ; rw [if_neg h]
      rw [this] at hln
      simp at hln
      omega)
    generalize rightJ t = rr at *
    clear hz hln hzz
    go_enter Tryz.func23, Tryz.ntmps23
    go_upto_region 1 with fail
    refine wp_world (fun W => OneB w W (cells6 k m x s A n c A' n' c') ∧ Box W (w.heap.size + 1) zero6) ⟨HT.out.below (al1 _ _), Box.new zero6 _ (by simp)⟩ ?_
    clear HT
    rintro W0 ⟨HT, HR⟩
    replace HT := Keep.mk HT
    replace HR := Keep.mk HR
    have x0 := HT.out.x.cell 0 _ rfl
    have x1 := HT.out.x.cell 1 _ rfl
    have x2 := HT.out.x.cell 2 _ rfl
    have x3 := HT.out.x.cell 3 _ rfl
    have x4 := HT.out.x.cell 4 _ rfl
    have x5 := HT.out.x.cell 5 _ rfl
    have xl := HT.out.x.lt
    go_wp2_with fail
    refine (HS.out W0 _ (HG.out W0 HT.out.b) (HJ.out.up HT.out.b)).mono ?_
    rintro r w1 ⟨rfl, hb1⟩
    clear x0 x1 x2 x3 x4 x5 xl
    replace HR := Keep.mk (HR.out.below hb1 HR.out.lt)
    replace HT := Keep.mk (HT.out.below hb1)
    clear hb1
    have hrb := HR.out
    have rl := hrb.lt
    have r0 := hrb.cell 0 _ rfl
    have r1 := hrb.cell 1 _ rfl
    have r2 := hrb.cell 2 _ rfl
    have r3 := hrb.cell 3 _ rfl
    have r4 := hrb.cell 4 _ rfl
    have r5 := hrb.cell 5 _ rfl
    have f0 := hrb.froz 0
    have f1 := hrb.froz 1
    have f2 := hrb.froz 2
    have f3 := hrb.froz 3
    have f4 := hrb.froz 4
    have f5 := hrb.froz 5
    by_cases hrr : rr = 0
    · subst hrr
      by_cases hbig : 16384 < z
      · have HE := Keep.mk (show doneJ (t, 0) = (zeroJ, 3) by rw [HD.out, if_neg (by simp), if_pos (HZ.out.1.1 hbig)])
        clear HD HZ hrb
        go_wp2
        refine bodyPost_ret (v := .tuple #[.agg #[.int .i64 0, .int .i64 0, .int .i64 0, .string ⟨#[]⟩, .slice none 0 0, .slice none 0 0], .int .i64 3]) ?_ rfl ⟨zero6, by rw [HE.out]; rfl, by rw [HE.out]; exact zero_in _ _, (by exact HT.out.b.trans (six_below w1 (w.heap.size + 1) (.int .i64 0) (.int .i64 0) (.int .i64 0) (.string ⟨#[]⟩) (.slice none 0 0) (.slice none 0 0) (by omega)))⟩
        simp [results, Tryz.results23, go_sem, r0, r1, r2, r3, r4, r5]
      · have HE := Keep.mk (show doneJ (t, 0) = (t, 0) by rw [HD.out, if_neg (by simp), if_neg (fun h => hbig (HZ.out.1.2 h))])
        clear HD HZ
        have x0 := HT.out.x.cell 0 _ rfl
        have x1 := HT.out.x.cell 1 _ rfl
        have x2 := HT.out.x.cell 2 _ rfl
        have x3 := HT.out.x.cell 3 _ rfl
        have x4 := HT.out.x.cell 4 _ rfl
        have x5 := HT.out.x.cell 5 _ rfl
        have xl := HT.out.x.lt
        go_wp2_with fail
        refine (HC.out w1 _ (HJ.out.up HT.out.b)).mono ?_
        rintro r w2 ⟨cs', hr, hj, hb2⟩
        obtain ⟨k9, m9, e9, s9, A9, n9, c9, A8, n8, c8, rfl⟩ := hj.cells
        have hr : r = .returned (.agg #[.int .i64 k9, .int .i64 m9, .int .i64 e9, .string s9, .slice A9 n9 c9, .slice A8 n8 c8]) := hr
        subst hr
        have hj2 := Keep.mk hj
        have hrb2 := hrb.below hb2 hrb.lt
        clear r0 r1 r2 r3 r4 r5 f0 f1 f2 f3 f4 f5 x0 x1 x2 x3 x4 x5 xl hj rl
        have r0 := hrb2.cell 0 _ rfl
        have f0 := hrb2.froz 0
        have r1 := hrb2.cell 1 _ rfl
        have f1 := hrb2.froz 1
        have r2 := hrb2.cell 2 _ rfl
        have f2 := hrb2.froz 2
        have r3 := hrb2.cell 3 _ rfl
        have f3 := hrb2.froz 3
        have r4 := hrb2.cell 4 _ rfl
        have f4 := hrb2.froz 4
        have r5 := hrb2.cell 5 _ rfl
        have f5 := hrb2.froz 5
        have rl := hrb2.lt
        have rl1 := hrb.lt
        have HB2 := Keep.mk (HT.out.b.trans (hb2.mono HT.out.b.size))
        clear hrb hrb2 hb2
        go_wp2
        refine bodyPost_ret (v := .tuple #[.agg #[.int .i64 k9, .int .i64 m9, .int .i64 e9, .string s9, .slice A9 n9 c9, .slice A8 n8 c8], .int .i64 0]) ?_ rfl ⟨_, by rw [HE.out], by rw [HE.out]; exact hj2.out.keep (fun g hg => six_other w2 (w.heap.size + 1) _ _ _ _ _ _ g (by have := hg.1; omega)) (fun g hg => ⟨Nat.le_trans (by omega) hg.1, by simpa using hg.2⟩), HB2.out.trans (six_below w2 (w.heap.size + 1) (.int .i64 k9) (.int .i64 m9) (.int .i64 e9) (.string s9) (.slice A9 n9 c9) (.slice A8 n8 c8) (by omega))⟩
        simp [results, Tryz.results23, go_sem, r0, r1, r2, r3, r4, r5]
    · have HE := Keep.mk (show doneJ (t, 0) = (zeroJ, rr) by rw [HD.out, if_pos hrr])
      obtain rfl := HZ.out.2 hrr
      have hr2 : (rr == 0) = false := by simpa using hrr
      clear HD HZ hrr hrb
      go_wp2
      refine bodyPost_ret (v := .tuple #[.agg #[.int .i64 0, .int .i64 0, .int .i64 0, .string ⟨#[]⟩, .slice none 0 0, .slice none 0 0], .int .i64 rr]) ?_ rfl ⟨zero6, by rw [HE.out]; rfl, by rw [HE.out]; exact zero_in _ _, (by exact HT.out.b.trans (six_below w1 (w.heap.size + 1) (.int .i64 0) (.int .i64 0) (.int .i64 0) (.string ⟨#[]⟩) (.slice none 0 0) (.slice none 0 0) (by omega)))⟩
      simp [results, Tryz.results23, go_sem, r0, r1, r2, r3, r4, r5]
  · have HD := Keep.mk (show doneJ (t, e) = (zeroJ, e) by unfold doneJ; rw [if_pos he])
    have he2 : (e == 0) = false := by simpa using he
    clear hz he
    go_enter Tryz.func23, Tryz.ntmps23
    go_wp2
    refine bodyPost_ret (v := .tuple #[.agg #[.int .i64 0, .int .i64 0, .int .i64 0, .string ⟨#[]⟩, .slice none 0 0, .slice none 0 0], .int .i64 e]) ?_ rfl ⟨zero6, by rw [HD.out]; rfl, by rw [HD.out]; exact zero_in _ _, al2 _ _ _⟩
    simp [results, Tryz.results23, go_sem]
end Go.Proofs.YtnkokhpadcgfbaaGreatDoor
namespace Th
open Go Go.Lib
def cntL : Nat → List UInt8 → Nat
  | 0, _ => 0
  | f + 1, l => if l = [] then 0 else 1 + cntL f (l.drop (decodeL l).2)
theorem cnt_nil : ∀ f, cntL f [] = 0
  | 0 => rfl
  | _ + 1 => by unfold cntL; rw [if_pos rfl]
theorem cnt_of (s : ByteArray) : ∀ f pos, runeCountFrom s f pos = cntL f (s.data.toList.drop pos)
  | 0, _ => rfl
  | f + 1, pos => by
    have hlen : s.data.toList.length = s.size := by simp
    unfold runeCountFrom cntL
    by_cases h : pos < s.size
    · rw [if_pos h, if_neg (by intro h2; have := congrArg List.length h2; rw [List.length_drop, hlen, List.length_nil] at this; omega), cnt_of s f, decodeL_drop, List.drop_drop]
    · rw [if_neg h, if_pos (List.drop_eq_nil_of_le (by omega))]
theorem cnt_fuel : ∀ (f g : Nat) (l : List UInt8), l.length ≤ f → l.length ≤ g → cntL f l = cntL g l
  | 0, g, l, hf, _ => by
    obtain rfl : l = [] := List.eq_nil_of_length_eq_zero (by omega)
    rw [cnt_nil, cnt_nil]
  | f + 1, 0, l, _, hg => by
    obtain rfl : l = [] := List.eq_nil_of_length_eq_zero (by omega)
    rw [cnt_nil, cnt_nil]
  | f + 1, g + 1, l, hf, hg => by
    unfold cntL
    by_cases hne : l = []
    · rw [if_pos hne, if_pos hne]
    · have hw := decodeL_width l
      have hl : 0 < l.length := List.length_pos_iff.2 hne
      rw [if_neg hne, if_neg hne, cnt_fuel f g (l.drop (decodeL l).2) (by rw [List.length_drop]; omega) (by rw [List.length_drop]; omega)]
theorem cnt_append : ∀ (n : Nat) (a b : List UInt8) (f : Nat), a.length ≤ n → validD a = true → a.length + b.length ≤ f → cntL f (a ++ b) = cntL n a + cntL f b := by
  intro n
  induction n with
  | zero =>
    intro a b f h _ _
    obtain rfl : a = [] := List.eq_nil_of_length_eq_zero (by omega)
    rw [cnt_nil, List.nil_append, Nat.zero_add]
  | succ n ih =>
    intro a b f h hv hf
    by_cases hne : a = []
    · subst hne
      rw [cnt_nil, List.nil_append, Nat.zero_add]
    · rw [validD_step a hne] at hv
      by_cases hb : badD a
      · rw [if_pos hb] at hv; cases hv
      · rw [if_neg hb] at hv
        have hd := decode_append a b hne hb
        have hle := decodeL_le a hne
        have hw := decodeL_width a
        have hl : 0 < a.length := List.length_pos_iff.2 hne
        obtain ⟨g, rfl⟩ : ∃ g, f = g + 1 := ⟨f - 1, by omega⟩
        rw [show cntL (g + 1) (a ++ b) = 1 + cntL g ((a ++ b).drop (decodeL (a ++ b)).2) by rw [show cntL (g + 1) (a ++ b) = if a ++ b = [] then 0 else 1 + cntL g ((a ++ b).drop (decodeL (a ++ b)).2) from rfl, if_neg (by simp [hne])],
          hd, List.drop_append_of_le_length hle, ih (a.drop (decodeL a).2) b g (by rw [List.length_drop]; omega) hv (by rw [List.length_drop]; omega),
          show cntL (n + 1) a = 1 + cntL n (a.drop (decodeL a).2) by rw [show cntL (n + 1) a = if a = [] then 0 else 1 + cntL n (a.drop (decodeL a).2) from rfl, if_neg hne],
          cnt_fuel (g + 1) g b (by omega) (by omega)]
        omega
theorem rune_append (s t : ByteArray) (h : validD s.data.toList = true) : Lib.runeCount (s ++ t) = Lib.runeCount s + Lib.runeCount t := by
  have l1 : s.data.toList.length = s.size := by simp
  have l2 : t.data.toList.length = t.size := by simp
  have e : (s ++ t).data.toList = s.data.toList ++ t.data.toList := by simp
  unfold Lib.runeCount
  rw [cnt_of, cnt_of, cnt_of, List.drop_zero, List.drop_zero, List.drop_zero, e, cnt_append s.size _ _ _ (by omega) h (by rw [ByteArray.size_append]; omega)]
  congr 1
  exact cnt_fuel _ _ _ (by rw [ByteArray.size_append]; omega) (by omega)
end Th
namespace Go.Proofs.YtnkokhpadcgfbaaGreatDoor
open Go Go.RowKit Go.Proofs Th
def plusJ (a b : JV) : JV × Int := if badL [a, b] ≠ 0 then (zeroJ, badL [a, b]) else doneJ (addJ a b)
def lenN (v : JV) : Nat := if v.k = 4 then Lib.runeCount v.s else v.l.length
theorem badL_two (a b : JV) : badL [a, b] = if rightJ a ≠ 0 then rightJ a else if rightJ b ≠ 0 then rightJ b else 0 := rfl
theorem zero_right : rightJ zeroJ = 0 := by decide
theorem done_ok {p : JV × Int} (h : (doneJ p).2 = 0) : doneJ p = p ∧ p.2 = 0 ∧ rightJ p.1 = 0 := by
  unfold doneJ at *
  by_cases h1 : p.2 ≠ 0
  · rw [if_pos h1] at h; exact absurd h h1
  · rw [if_neg h1] at h ⊢
    by_cases h2 : rightJ p.1 ≠ 0
    · rw [if_pos h2] at h; exact absurd h h2
    · rw [if_neg h2] at h ⊢
      by_cases h3 : 16384 < (printJ p.1).length
      · rw [if_pos h3] at h; cases h
      · rw [if_neg h3]
        exact ⟨rfl, by omega, by omega⟩
theorem done_bad {p : JV × Int} (h : (doneJ p).2 ≠ 0) : (doneJ p).1 = zeroJ := by
  unfold doneJ at *
  by_cases h1 : p.2 ≠ 0
  · rw [if_pos h1]
  · rw [if_neg h1] at h ⊢
    by_cases h2 : rightJ p.1 ≠ 0
    · rw [if_pos h2]
    · rw [if_neg h2] at h ⊢
      by_cases h3 : 16384 < (printJ p.1).length
      · rw [if_pos h3]
      · rw [if_neg h3] at h; exact absurd (by omega) h
theorem plus_bad {a b : JV} (h : (plusJ a b).2 ≠ 0) : (plusJ a b).1 = zeroJ := by
  unfold plusJ at *
  by_cases h1 : badL [a, b] ≠ 0
  · rw [if_pos h1]
  · rw [if_neg h1] at h ⊢; exact done_bad h
theorem plus_ok {a b : JV} (h : (plusJ a b).2 = 0) : rightJ a = 0 ∧ rightJ b = 0 ∧ plusJ a b = addJ a b ∧ (addJ a b).2 = 0 ∧ rightJ (addJ a b).1 = 0 := by
  unfold plusJ at *
  by_cases h1 : badL [a, b] ≠ 0
  · rw [if_pos h1] at h; exact absurd h h1
  · rw [if_neg h1] at h ⊢
    rw [badL_two] at h1
    obtain ⟨e1, e2, e3⟩ := done_ok h
    by_cases ha : rightJ a ≠ 0
    · rw [if_pos ha] at h1; exact absurd ha h1
    · rw [if_neg ha] at h1
      by_cases hb : rightJ b ≠ 0
      · rw [if_pos hb] at h1; exact absurd hb h1
      · exact ⟨by omega, by omega, e1, e2, e3⟩
theorem plus_null (a : JV) (hk : a.k ≠ 0) : plusJ a zeroJ = plusJ zeroJ a ∧ ((plusJ zeroJ a).2 = 0 → (plusJ zeroJ a).1 = a) := by
  have e1 : addJ a zeroJ = (a, 0) := by unfold addJ; rw [if_neg hk, if_pos (show zeroJ.k = 0 from rfl)]
  have e2 : addJ zeroJ a = (a, 0) := by unfold addJ; rw [if_pos (show zeroJ.k = 0 from rfl)]
  have e3 : badL [a, zeroJ] = badL [zeroJ, a] := by
    rw [badL_two, badL_two, zero_right]
    simp
  refine ⟨by unfold plusJ; rw [e1, e2, e3], fun h => ?_⟩
  rw [(plus_ok h).2.2.1, e2]
theorem add_text {a b : JV} (ha : a.k = 4) (hb : b.k = 4) (h : (addJ a b).2 = 0) : (addJ a b).1 = textV (a.s ++ b.s) := by
  unfold addJ at *
  rw [if_neg (by omega), if_neg (by omega), if_pos ⟨ha, hb⟩] at *
  by_cases h3 : 16384 < a.s.size + b.s.size
  · rw [if_pos h3] at h; cases h
  · rw [if_neg h3]
theorem add_list {a b : JV} (ha : a.k = 5) (hb : b.k = 5) : addJ a b = (listV (a.l ++ b.l), 0) := by
  unfold addJ
  rw [if_neg (by omega), if_neg (by omega), if_neg (by omega), if_pos ⟨ha, hb⟩]
theorem right_textB {a : JV} (h : rightJ a = 0) : Lib.validD a.s.data.toList = true := by
  obtain ⟨k, m, e, s, l, ks⟩ := a
  have := (right_ok h).1
  rw [show allJ (.mk k m e s l ks) = (okOne (.mk k m e s l ks) && allL l) from rfl, Bool.and_eq_true] at this
  exact (ok_parts this.1).2.2.1
theorem size_parts (a : JV) : sizeJ a = 1 + a.s.size + keysN a.ks + sizeL a.l := by
  obtain ⟨k, m, e, s, l, ks⟩ := a
  rfl
theorem sizeL_app : ∀ l r : List JV, sizeL (l ++ r) = sizeL l + sizeL r
  | [], _ => (Nat.zero_add _).symm
  | a :: l, r => by
    have := sizeL_app l r
    show sizeJ a + sizeL (l ++ r) = sizeJ a + sizeL l + sizeL r
    omega
theorem len_le (a : JV) : lenN a ≤ sizeJ a := by
  have h := size_parts a
  have h1 := Lib.runeCount_le a.s
  have h2 := sizeL_len a.l
  unfold lenN
  split <;> omega
theorem plus_form {a b : JV} (hab : a.k = b.k) (hk : a.k = 4 ∨ a.k = 5) : ((plusJ a b).1.k = 0 ∨ (plusJ a b).1.k = a.k) ∧ sizeJ (plusJ a b).1 ≤ sizeJ a + sizeJ b := by
  have ea := size_parts a
  have eb := size_parts b
  by_cases h : (plusJ a b).2 = 0
  · obtain ⟨_, _, e1, o1, _⟩ := plus_ok h
    rw [e1]
    rcases hk with hk | hk
    · rw [add_text hk (hab ▸ hk) o1]
      refine ⟨Or.inr hk.symm, ?_⟩
      show 1 + (a.s ++ b.s).size + 0 + 0 ≤ _
      rw [ByteArray.size_append]; omega
    · rw [add_list hk (hab ▸ hk)]
      refine ⟨Or.inr hk.symm, ?_⟩
      show 1 + 0 + 0 + sizeL (a.l ++ b.l) ≤ _
      rw [sizeL_app]; omega
  · rw [plus_bad h]
    refine ⟨Or.inl rfl, ?_⟩
    show 1 + 0 + 0 + 0 ≤ _
    omega
theorem plus_law {a b c : JV} (hab : a.k = b.k) (hbc : b.k = c.k) (hk : a.k = 4 ∨ a.k = 5) (h1 : (plusJ a b).2 = 0) (h2 : (plusJ b c).2 = 0) (h3 : (plusJ (plusJ a b).1 c).2 = 0) (h4 : (plusJ a (plusJ b c).1).2 = 0) :
    (plusJ (plusJ a b).1 c).1 = (plusJ a (plusJ b c).1).1 ∧ lenN (plusJ a b).1 = lenN a + lenN b ∧ rightJ a = 0 ∧ rightJ b = 0 ∧ rightJ (plusJ a b).1 = 0 ∧ (plusJ a b).1.k = a.k := by
  obtain ⟨ra, rb, e1, o1, r1⟩ := plus_ok h1
  obtain ⟨_, rc, e2, o2, r2⟩ := plus_ok h2
  obtain ⟨_, _, e3, o3, _⟩ := plus_ok h3
  obtain ⟨_, _, e4, o4, _⟩ := plus_ok h4
  rw [e1] at e3 o3 ⊢
  rw [e2] at e4 o4 ⊢
  rw [e3, e4]
  rcases hk with hk | hk
  · have t1 := add_text hk (hab ▸ hk) o1
    have t2 := add_text (hab ▸ hk) (hbc ▸ hab ▸ hk) o2
    rw [t1] at o3 ⊢
    rw [t2] at o4 ⊢
    have t3 := add_text (a := textV (a.s ++ b.s)) rfl (hbc ▸ hab ▸ hk) o3
    have t4 := add_text (b := textV (b.s ++ c.s)) hk rfl o4
    rw [t3, t4]
    refine ⟨?_, ?_, ra, rb, by rw [← t1]; exact r1, hk.symm⟩
    · show textV (a.s ++ b.s ++ c.s) = textV (a.s ++ (b.s ++ c.s))
      rw [ByteArray.append_assoc]
    · unfold lenN
      rw [if_pos (show (textV (a.s ++ b.s)).k = 4 from rfl), if_pos hk, if_pos (hab ▸ hk)]
      exact rune_append a.s b.s (right_textB ra)
  · have hb : b.k = 5 := hab ▸ hk
    have hc : c.k = 5 := hbc ▸ hb
    rw [add_list hk hb] at r1 ⊢
    rw [add_list hb hc]
    rw [add_list (a := listV (a.l ++ b.l)) rfl hc, add_list (b := listV (b.l ++ c.l)) hk rfl]
    refine ⟨?_, ?_, ra, rb, r1, hk.symm⟩
    · show listV (a.l ++ b.l ++ c.l) = listV (a.l ++ (b.l ++ c.l))
      rw [List.append_assoc]
    · unfold lenN
      rw [if_neg (by show ¬ (5 : Int) = 4; decide), if_neg (by omega), if_neg (by omega)]
      show (a.l ++ b.l).length = _
      rw [List.length_append]
theorem done_whole (n : Nat) (h : n < 1000000000000000000) : doneJ (digV (wholeN n), 0) = (digV (wholeN n), 0) := by
  have hr : rightJ (digV (wholeN n)) = 0 := by
    obtain ⟨m, k, _, e, hk, hf, hm⟩ := whole_form n h
    unfold wholeN
    rw [e]
    unfold rightJ
    rw [show depthJ (digV ((m : Int), (k : Int))) = 1 from rfl, if_neg (by decide)]
    rw [show allJ (digV ((m : Int), (k : Int))) = okOne (digV ((m : Int), (k : Int))) by rw [show allJ (digV ((m : Int), (k : Int))) = (okOne (digV ((m : Int), (k : Int))) && allL []) from rfl, show allL [] = true from rfl, Bool.and_true]]
    rw [show okOne (digV ((m : Int), (k : Int))) = right (m : Int) (k : Int) by
      show okOne (.mk 3 (m : Int) (k : Int) ⟨#[]⟩ [] []) = _
      simp [okOne, validD_nil, riseK]
      exact fun _ => rfl]
    rw [right_of_form hk hf hm]; rfl
  have hl : (printJ (digV (wholeN n))).length ≤ 4000 := by
    unfold printJ
    rw [if_pos hr]
    have := textJ_len _ (right_ok hr).1
    exact this
  have hl2 : ¬ 16384 < (printJ (digV (wholeN n), (0 : Int)).1).length := by show ¬ 16384 < (printJ (digV (wholeN n))).length; omega
  unfold doneJ
  rw [if_neg (by simp), if_neg (by rw [hr]; decide), if_neg hl2]
theorem plus_whole (n m : Nat) (h : n + m < 1000000000000000000) : plusJ (digV (wholeN n)) (digV (wholeN m)) = (digV (wholeN (n + m)), 0) := by
  have r1 := (done_ok (p := (digV (wholeN n), 0)) (by rw [done_whole n (by omega)])).2.2
  have r2 := (done_ok (p := (digV (wholeN m), 0)) (by rw [done_whole m (by omega)])).2.2
  unfold plusJ
  rw [badL_two, r1, r2, if_neg (by simp)]
  have : addJ (digV (wholeN n)) (digV (wholeN m)) = (digV (wholeN (n + m)), 0) := by
    unfold addJ
    rw [if_neg (by show ¬ (3 : Int) = 0; decide), if_neg (by show ¬ (3 : Int) = 0; decide), if_neg (by intro h; exact absurd h.1 (by show ¬ (3 : Int) = 4; decide)), if_neg (by intro h; exact absurd h.1 (by show ¬ (3 : Int) = 5; decide)), if_neg (by intro h; exact absurd h.1 (by show ¬ (3 : Int) = 6; decide))]
    unfold numsJ
    rw [if_neg (by intro h; rcases h with h | h <;> exact h rfl)]
    show (digV (addN (wholeN n).1 (wholeN n).2 (wholeN m).1 (wholeN m).2).1, (addN (wholeN n).1 (wholeN n).2 (wholeN m).1 (wholeN m).2).2) = _
    rw [whole_add n m h]
  rw [this, done_whole (n + m) h]
end Go.Proofs.YtnkokhpadcgfbaaGreatDoor
