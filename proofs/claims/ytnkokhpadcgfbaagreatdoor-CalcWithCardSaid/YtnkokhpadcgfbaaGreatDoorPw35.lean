/- Lemmas and contracts for the laws CalcWith, part 35 of 50: CalcN, Whole. Conditions: those that each lemma names. -/
import Derived.Test.YtnkokhpadcgfbaaGreatDoorPw34
import Derived.Test.YtnkokhpadcgfbaaGreatDoorPw5
namespace Go.Proofs.YtnkokhpadcgfbaaGreatDoor
open Go Go.RowKit Go.Proofs Th
attribute [local go_sem] Above.cell
set_option maxRecDepth 100000 in
theorem numbers_kind (k m e : Int) (s : ByteArray) (A : Option Addr) (n c : Nat) (A' : Option Addr) (n' c' : Nat) (k2 m2 e2 : Int) (s2 : ByteArray) (B : Option Addr) (n2 d : Nat) (B' : Option Addr) (n2' d' : Nat) (F : FuncId) (h : k ≠ 3 ∨ k2 ≠ 3) (w : World) :
    Calls Tryz.prog 26 #[.agg #[.int .i64 k, .int .i64 m, .int .i64 e, .string s, .slice A n c, .slice A' n' c'], .agg #[.int .i64 k2, .int .i64 m2, .int .i64 e2, .string s2, .slice B n2 d, .slice B' n2' d'], .func (.func F) #[] #[]] w fun r w' => r = .returned (.tuple #[.agg #[.int .i64 0, .int .i64 0, .int .i64 0, .string ⟨#[]⟩, .slice none 0 0, .slice none 0 0], .int .i64 80]) ∧ Below w.heap.size w w' := by
  go_enter Tryz.func26, Tryz.ntmps26
  go_upto_region 1 with fail
  refine wp_world (fun W => OpS w W (cells6 k m e s A n c A' n' c') (cells6 k2 m2 e2 s2 B n2 d B' n2' d')) (OpS.new w k m e s A n c A' n' c' k2 m2 e2 s2 B n2 d B' n2' d' 27 27 27) ?_
  rintro W0 HT
  replace HT := Keep.mk HT
  have x0 := HT.out.x.cell 0 _ rfl
  have x1 := HT.out.x.cell 1 _ rfl
  have x2 := HT.out.x.cell 2 _ rfl
  have x3 := HT.out.x.cell 3 _ rfl
  have x4 := HT.out.x.cell 4 _ rfl
  have x5 := HT.out.x.cell 5 _ rfl
  have xl := HT.out.x.lt
  have y0 := HT.out.y.cell 0 _ rfl
  have y1 := HT.out.y.cell 1 _ rfl
  have y2 := HT.out.y.cell 2 _ rfl
  have y3 := HT.out.y.cell 3 _ rfl
  have y4 := HT.out.y.cell 4 _ rfl
  have y5 := HT.out.y.cell 5 _ rfl
  have yl := HT.out.y.lt
  have r0 := HT.out.r.cell 0 _ rfl
  have f0 := HT.out.r.froz 0
  have r1 := HT.out.r.cell 1 _ rfl
  have f1 := HT.out.r.froz 1
  have r2 := HT.out.r.cell 2 _ rfl
  have f2 := HT.out.r.froz 2
  have r3 := HT.out.r.cell 3 _ rfl
  have f3 := HT.out.r.froz 3
  have r4 := HT.out.r.cell 4 _ rfl
  have f4 := HT.out.r.froz 4
  have r5 := HT.out.r.cell 5 _ rfl
  have f5 := HT.out.r.froz 5
  have rl := HT.out.r.lt
  by_cases h1 : k = 3
  · have h2 : k2 ≠ 3 := h.resolve_left (fun h => h h1)
    have b2 : (k2 == 3) = false := by simpa using h2
    subst h1
    clear h h2
    go_wp2
    refine bodyPost_ret (v := .tuple #[.agg #[.int .i64 0, .int .i64 0, .int .i64 0, .string ⟨#[]⟩, .slice none 0 0, .slice none 0 0], .int .i64 80]) ?_ rfl ⟨rfl, HT.out.b.trans (six_below W0 (w.heap.size + 2) (.int .i64 0) (.int .i64 0) (.int .i64 0) (.string ⟨#[]⟩) (.slice none 0 0) (.slice none 0 0) (by omega))⟩
    simp [results, Tryz.results26, go_sem, r0, r1, r2, r3, r4, r5]
  · have b1 : (k == 3) = false := by simpa using h1
    clear h h1
    go_wp2
    refine bodyPost_ret (v := .tuple #[.agg #[.int .i64 0, .int .i64 0, .int .i64 0, .string ⟨#[]⟩, .slice none 0 0, .slice none 0 0], .int .i64 80]) ?_ rfl ⟨rfl, HT.out.b.trans (six_below W0 (w.heap.size + 2) (.int .i64 0) (.int .i64 0) (.int .i64 0) (.string ⟨#[]⟩) (.slice none 0 0) (.slice none 0 0) (by omega))⟩
    simp [results, Tryz.results26, go_sem, r0, r1, r2, r3, r4, r5]
end Go.Proofs.YtnkokhpadcgfbaaGreatDoor
namespace Go.Proofs.YtnkokhpadcgfbaaGreatDoor
open Go Go.RowKit Go.Proofs Th
attribute [local go_sem] Above.cell
theorem whole_of (n c e : Nat) (hn : n < 1000000000000000000) (h : c * 10 ^ e = n) (hc : c % 10 ≠ 0 ∨ (c = 0 ∧ e = 0)) : wholeN n = ((c : Int), (e : Int)) := by
  unfold wholeN
  have h1 := normZ_shift (c : Int) e 0
  have h2 : (c : Int) * ((10 ^ e : Nat) : Int) = (n : Int) := by rw [← h, Int.natCast_mul]
  rw [h2, Int.zero_add] at h1
  rw [h1]
  have hr : right (c : Int) (e : Int) = true := by
    rcases hc with h0 | ⟨rfl, rfl⟩
    · have hp : 10 ^ e ≤ n := by rw [← h]; exact Nat.le_mul_of_pos_left _ (by omega)
      have he : e ≤ 18 := by
        rcases Nat.lt_or_ge 18 e with h3 | h3
        · have : 10 ^ 19 ≤ 10 ^ e := Nat.pow_le_pow_right (by omega) h3
          omega
        · exact h3
      have hcn : c ≤ n := by rw [← h]; exact Nat.le_mul_of_pos_right _ (Nat.pow_pos (by omega))
      exact right_of_form he (Or.inl h0) (by omega)
    · rfl
  rw [normZ_right hr]
theorem exp_le (n c e : Nat) (hn : n < 1000000000000000000) (h : c * 10 ^ e = n) (hc : c ≠ 0) : e ≤ 18 := by
  have hp : 10 ^ e ≤ n := by rw [← h]; exact Nat.le_mul_of_pos_left _ (by omega)
  rcases Nat.lt_or_ge 18 e with h3 | h3
  · have : 10 ^ 19 ≤ 10 ^ e := Nat.pow_le_pow_right (by omega) h3
    omega
  · exact h3
set_option maxRecDepth 100000 in
theorem calc_whole (n : Nat) (hn : n < 1000000000000000000) (w : World) :
    Calls Tryz.prog 50 #[.int .i64 n] w fun r w' => r = .returned (.agg #[.int .i64 3, .int .i64 (wholeN n).1, .int .i64 (wholeN n).2, .string ⟨#[]⟩, .slice none 0 0, .slice none 0 0]) ∧ Below w.heap.size w w' := by
  have HN := Keep.mk hn
  go_enter Tryz.func50, Tryz.ntmps50
  go_upto_region 1 with fail
  refine wp_world (fun W => Box W w.heap.size zero6 ∧ Below w.heap.size w W) ⟨Box.new zero6 _ rfl, al1 _ _⟩ ?_
  rintro W0 ⟨HR, HB⟩
  replace HR := Keep.mk HR
  replace HB := Keep.mk HB
  go_wp2_with fail
  go_loopg [0, 3] n (fun gk s0 s3 wr => ∃ e : Nat, s0 = .int .i64 gk ∧ s3 = .int .i64 e ∧ gk ≤ n ∧ Keep (gk * 10 ^ e = n) ∧ Keep (gk = 0 → e = 0) ∧ W0 = wr)
  case atStart => exact ⟨0, rfl, rfl, Nat.le_refl _, ⟨by simp⟩, ⟨fun _ => rfl⟩, rfl⟩
  case round =>
    obtain ⟨e, rfl, rfl, hgn, HE, H0, rfl⟩ := hrel
    by_cases h0 : gk = 0
    · subst h0
      obtain rfl : e = 0 := H0.out rfl
      have HW := Keep.mk (whole_of n 0 0 HN.out HE.out (Or.inr ⟨rfl, rfl⟩))
      have rr := HR.out
      clear HE H0 hn
      go_wp2_with fail
      refine (calc_digit _ _ _).mono ?_
      rintro r w1 ⟨rfl, hb1⟩
      have HR1 := Keep.mk (HR.out.below hb1 HR.out.lt)
      have HB1 := Keep.mk (up HB.out hb1)
      clear hb1 HR HB rr
      have r0 := HR1.out.cell 0 _ rfl
      have f0 := HR1.out.froz 0
      have r1 := HR1.out.cell 1 _ rfl
      have f1 := HR1.out.froz 1
      have r2 := HR1.out.cell 2 _ rfl
      have f2 := HR1.out.froz 2
      have r3 := HR1.out.cell 3 _ rfl
      have f3 := HR1.out.froz 3
      have r4 := HR1.out.cell 4 _ rfl
      have f4 := HR1.out.froz 4
      have r5 := HR1.out.cell 5 _ rfl
      have f5 := HR1.out.froz 5
      have rl := HR1.out.lt
      go_wp2
      refine bodyPost_ret (v := .agg #[.int .i64 3, .int .i64 0, .int .i64 0, .string ⟨#[]⟩, .slice none 0 0, .slice none 0 0]) ?_ rfl ⟨by rw [HW.out]; rfl, HB1.out.trans (six_below w1 w.heap.size (.int .i64 3) (.int .i64 0) (.int .i64 0) (.string ⟨#[]⟩) (.slice none 0 0) (.slice none 0 0) (Nat.le_refl _))⟩
      simp [results, Tryz.results50, go_sem, r0, r1, r2, r3, r4, r5]
    · have he := exp_le n gk e HN.out HE.out h0
      have b0 : ((gk : Int) == 0) = false := by rw [beq_eq_false_iff_ne]; omega
      by_cases h1 : gk % 10 = 0
      · have hm : ((gk : Int) % 10 == 0) = true := by rw [beq_iff_eq]; omega
        have HE2 := Keep.mk (show gk / 10 * 10 ^ (e + 1) = n by rw [Nat.pow_succ, Nat.mul_comm (10 ^ e) 10, ← Nat.mul_assoc, Nat.div_mul_cancel (Nat.dvd_of_mod_eq_zero h1)]; exact HE.out)
        clear HE H0
        go_wp2
        go_roundg (gk / 10)
        case rel => exact ⟨e + 1, by go_num, by go_num, by omega, HE2, ⟨fun h => by omega⟩, rfl⟩
        case measure => omega
      · have HW := Keep.mk (whole_of n gk e HN.out HE.out (Or.inl h1))
        have hm : ((gk : Int) % 10 == 0) = false := by rw [beq_eq_false_iff_ne]; omega
        clear HE H0 hn
        go_wp2_with fail
        refine (calc_digit _ _ _).mono ?_
        rintro r w1 ⟨rfl, hb1⟩
        have HR1 := Keep.mk (HR.out.below hb1 HR.out.lt)
        have HB1 := Keep.mk (up HB.out hb1)
        clear hb1 HR HB
        have r0 := HR1.out.cell 0 _ rfl
        have f0 := HR1.out.froz 0
        have r1 := HR1.out.cell 1 _ rfl
        have f1 := HR1.out.froz 1
        have r2 := HR1.out.cell 2 _ rfl
        have f2 := HR1.out.froz 2
        have r3 := HR1.out.cell 3 _ rfl
        have f3 := HR1.out.froz 3
        have r4 := HR1.out.cell 4 _ rfl
        have f4 := HR1.out.froz 4
        have r5 := HR1.out.cell 5 _ rfl
        have f5 := HR1.out.froz 5
        have rl := HR1.out.lt
        go_wp2
        refine bodyPost_ret (v := .agg #[.int .i64 3, .int .i64 gk, .int .i64 e, .string ⟨#[]⟩, .slice none 0 0, .slice none 0 0]) ?_ rfl ⟨by rw [HW.out], HB1.out.trans (six_below w1 w.heap.size (.int .i64 3) (.int .i64 gk) (.int .i64 e) (.string ⟨#[]⟩) (.slice none 0 0) (.slice none 0 0) (Nat.le_refl _))⟩
        simp [results, Tryz.results50, go_sem, r0, r1, r2, r3, r4, r5]
end Go.Proofs.YtnkokhpadcgfbaaGreatDoor
