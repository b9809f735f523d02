/- Lemmas and contracts for the laws CalcLengths, part 11 of 37: Add. Conditions: those that each lemma names. -/
import Derived.Test.YtnkokhpadcgfbaaGreatDoorPack9
namespace Go.Proofs.YtnkokhpadcgfbaaGreatDoor
open Go Go.RowKit Go.Proofs Th
attribute [local go_sem] Above.cell
theorem add_wrong (m1 e1 m2 e2 : Int) (hm1 : I64 m1) (hm2 : I64 m2) (hr : right m1 e1 = false ∨ (right m1 e1 = true ∧ right m2 e2 = false)) (w : World) (hg : Glob w) : Calls Tryz.prog 64 #[.agg #[.int .i64 m1, .int .i64 e1], .agg #[.int .i64 m2, .int .i64 e2]] w fun r w' =>
    r = .returned (numRes ((0, 0), 10)) ∧ Below w.heap.size w w' := by
  rcases hr with h1 | ⟨h1, h2⟩
  · go_enter Tryz.func64, Tryz.ntmps64
    go_wp2_with fail
    refine (num_Right m1 e1 hm1.lo hm1.hi _ (hg.below (al3 _ _ _ _))).mono ?_
    rw [h1]; rintro r w1 ⟨rfl, hb⟩
    obtain ⟨hc, hf⟩ := bcell hb
    go_wp2_with fail
    refine (num_zero _).mono ?_
    rintro r w2 ⟨rfl, hb2⟩
    have hb3 := up hb hb2
    clear hc hf
    obtain ⟨hc, hf⟩ := bcell hb3
    go_wp2
    refine bodyPost_ret (v := numRes ((0, 0), 10)) ?_ rfl ⟨rfl, ?_⟩
    · simp [numRes, results, Tryz.results64, go_sem, hc]
    · exact st1 (st1 (up (al3 _ _ _ _) hb3) _ _ _ (by omega)) _ _ _ (by omega)
  · go_enter Tryz.func64, Tryz.ntmps64
    go_wp2_with fail
    refine (num_Right m1 e1 hm1.lo hm1.hi _ (hg.below (al3 _ _ _ _))).mono ?_
    rw [h1]; rintro r w1 ⟨rfl, hb⟩
    have hg1 := hg.below (up (al3 _ _ _ _) hb)
    obtain ⟨hc, hf⟩ := bcell hb
    go_wp2_with fail
    refine (num_Right m2 e2 hm2.lo hm2.hi _ hg1).mono ?_
    rw [h2]; rintro r w2 ⟨rfl, hb2⟩
    have hb3 := up hb hb2
    clear hc hf
    obtain ⟨hc, hf⟩ := bcell hb3
    go_wp2_with fail
    refine (num_zero _).mono ?_
    rintro r w3 ⟨rfl, hb4⟩
    have hb5 := up hb3 hb4
    clear hc hf
    obtain ⟨hc, hf⟩ := bcell hb5
    go_wp2
    refine bodyPost_ret (v := numRes ((0, 0), 10)) ?_ rfl ⟨rfl, ?_⟩
    · simp [numRes, results, Tryz.results64, go_sem, hc]
    · exact st1 (st1 (up (al3 _ _ _ _) hb5) _ _ _ (by omega)) _ _ _ (by omega)
theorem add_zero1 (m1 e1 m2 e2 : Int) (hm1 : I64 m1) (hm2 : I64 m2) (h1 : right m1 e1 = true) (h2 : right m2 e2 = true) (hz : (m1 == 0) = true) (w : World) (hg : Glob w) : Calls Tryz.prog 64 #[.agg #[.int .i64 m1, .int .i64 e1], .agg #[.int .i64 m2, .int .i64 e2]] w fun r w' =>
    r = .returned (numRes ((m2, e2), 0)) ∧ Below w.heap.size w w' := by
  have hz1 := zero_of_right h1
  rw [hz] at hz1
  go_enter Tryz.func64, Tryz.ntmps64
  go_wp2_with fail
  refine (num_Right m1 e1 hm1.lo hm1.hi _ (hg.below (al3 _ _ _ _))).mono ?_
  rw [h1]; rintro r w1 ⟨rfl, hb⟩
  have hg1 := hg.below (up (al3 _ _ _ _) hb)
  obtain ⟨hc, hf⟩ := bcell hb
  go_wp2_with fail
  refine (num_Right m2 e2 hm2.lo hm2.hi _ hg1).mono ?_
  rw [h2]; rintro r w2 ⟨rfl, hb2⟩
  have hb3 := up hb hb2
  clear hc hf
  obtain ⟨hc, hf⟩ := bcell hb3
  go_wp2_with fail
  refine wp_region_from hb3 (by kernel_rfl) (by kernel_rfl) ?_
  repeat (go_big_quiet_step ((go_at_call 70; exact calls_above (num_zero _))))
  refine wpQuiet_nil ?_
  rintro _ ⟨x, rfl⟩
  have hb4 := x.property
  clear hc hf
  obtain ⟨hc, hf⟩ := bcell hb4
  go_wp2
  refine bodyPost_ret (v := numRes ((m2, e2), 0)) ?_ rfl ⟨rfl, ?_⟩
  · simp [numRes, results, Tryz.results64, go_sem, hc]
  · exact st1 (st1 (up (al3 _ _ _ _) hb4) _ _ _ (by omega)) _ _ _ (by omega)
theorem add_zero2 (m1 e1 m2 e2 : Int) (hm1 : I64 m1) (hm2 : I64 m2) (h1 : right m1 e1 = true) (h2 : right m2 e2 = true) (hz : (m1 == 0) = false) (hy : (m2 == 0) = true) (w : World) (hg : Glob w) : Calls Tryz.prog 64 #[.agg #[.int .i64 m1, .int .i64 e1], .agg #[.int .i64 m2, .int .i64 e2]] w fun r w' =>
    r = .returned (numRes ((m1, e1), 0)) ∧ Below w.heap.size w w' := by
  have hz1 := zero_of_right h1
  have hz2 := zero_of_right h2
  rw [hz] at hz1
  rw [hy] at hz2
  go_enter Tryz.func64, Tryz.ntmps64
  go_wp2_with fail
  refine (num_Right m1 e1 hm1.lo hm1.hi _ (hg.below (al3 _ _ _ _))).mono ?_
  rw [h1]; rintro r w1 ⟨rfl, hb⟩
  have hg1 := hg.below (up (al3 _ _ _ _) hb)
  obtain ⟨hc, hf⟩ := bcell hb
  go_wp2_with fail
  refine (num_Right m2 e2 hm2.lo hm2.hi _ hg1).mono ?_
  rw [h2]; rintro r w2 ⟨rfl, hb2⟩
  have hb3 := up hb hb2
  clear hc hf
  obtain ⟨hc, hf⟩ := bcell hb3
  go_wp2_with fail
  refine wp_region_from hb3 (by kernel_rfl) (by kernel_rfl) ?_
  repeat (go_big_quiet_step ((go_at_call 70; exact calls_above (num_zero _))))
  refine wpQuiet_nil ?_
  rintro _ ⟨x, rfl⟩
  have hb4 := x.property
  clear hc hf
  obtain ⟨hc, hf⟩ := bcell hb4
  go_wp2_with fail
  refine wp_region_from hb4 (by kernel_rfl) (by kernel_rfl) ?_
  repeat (go_big_quiet_step ((go_at_call 70; exact calls_above (num_zero _))))
  refine wpQuiet_nil ?_
  rintro _ ⟨x2, rfl⟩
  have hb5 := x2.property
  clear hc hf
  obtain ⟨hc, hf⟩ := bcell hb5
  go_wp2
  refine bodyPost_ret (v := numRes ((m1, e1), 0)) ?_ rfl ⟨rfl, ?_⟩
  · simp [numRes, results, Tryz.results64, go_sem, hc]
  · exact st1 (st1 (up (al3 _ _ _ _) hb5) _ _ _ (by omega)) _ _ _ (by omega)
theorem add_far (m1 e1 m2 e2 : Int) (hm1 : I64 m1) (hm2 : I64 m2) (h1 : right m1 e1 = true) (h2 : right m2 e2 = true) (hz : (m1 == 0) = false) (hy : (m2 == 0) = false) (_hlt : e2 ≤ e1) (hd : 18 < e1 - e2) (w : World) (hg : Glob w) : Calls Tryz.prog 64 #[.agg #[.int .i64 m1, .int .i64 e1], .agg #[.int .i64 m2, .int .i64 e2]] w fun r w' =>
    r = .returned (numRes ((0, 0), 11)) ∧ Below w.heap.size w w' := by
  have hx1 := right_exp h1
  have hx2 := right_exp h2
  have hz1 := zero_of_right h1
  have hz2 := zero_of_right h2
  rw [hz] at hz1
  rw [hy] at hz2
  go_enter Tryz.func64, Tryz.ntmps64
  go_wp2_with fail
  refine (num_Right m1 e1 hm1.lo hm1.hi _ (hg.below (al3 _ _ _ _))).mono ?_
  rw [h1]; rintro r w1 ⟨rfl, hb⟩
  have hg1 := hg.below (up (al3 _ _ _ _) hb)
  obtain ⟨hc, hf⟩ := bcell hb
  go_wp2_with fail
  refine (num_Right m2 e2 hm2.lo hm2.hi _ hg1).mono ?_
  rw [h2]; rintro r w2 ⟨rfl, hb2⟩
  have hb3 := up hb hb2
  clear hc hf
  obtain ⟨hc, hf⟩ := bcell hb3
  go_wp2_with fail
  refine wp_region_from hb3 (by kernel_rfl) (by kernel_rfl) ?_
  repeat (go_big_quiet_step ((go_at_call 70; exact calls_above (num_zero _))))
  refine wpQuiet_nil ?_
  rintro _ ⟨x, rfl⟩
  have hb4 := x.property
  clear hc hf
  obtain ⟨hc, hf⟩ := bcell hb4
  go_wp2_with fail
  refine wp_region_from hb4 (by kernel_rfl) (by kernel_rfl) ?_
  repeat (go_big_quiet_step ((go_at_call 70; exact calls_above (num_zero _))))
  refine wpQuiet_nil ?_
  rintro _ ⟨x2, rfl⟩
  have hb5 := x2.property
  clear hc hf
  obtain ⟨hc, hf⟩ := bcell hb5
  go_wp2_with fail
  refine (num_zero _).mono ?_
  rintro r w6 ⟨rfl, hb6⟩
  have hb7 := up hb5 hb6
  clear hc hf
  obtain ⟨hc, hf⟩ := bcell hb7
  go_wp2
  refine bodyPost_ret (v := numRes ((0, 0), 11)) ?_ rfl ⟨rfl, ?_⟩
  · simp [numRes, results, Tryz.results64, go_sem, hc]
  · exact st1 (st1 (up (al3 _ _ _ _) hb7) _ _ _ (by omega)) _ _ _ (by omega)
set_option maxRecDepth 100000 in
theorem add_near_walk (m1 e1 m2 e2 : Int) (hm1 : I64 m1) (hm2 : I64 m2) (h1 : right m1 e1 = true) (h2 : right m2 e2 = true) (hz : (m1 == 0) = false) (hy : (m2 == 0) = false) (hlt : e2 ≤ e1) (hd : e1 - e2 ≤ 18) (A B T : Int) (hA : (m1.natAbs : Int) = A) (hB : (m2.natAbs : Int) = B) (hT : pten (e1 - e2) = T) (w : World) (hg : Glob w) : Calls Tryz.prog 64 #[.agg #[.int .i64 m1, .int .i64 e1], .agg #[.int .i64 m2, .int .i64 e2]] w fun r w' =>
    r = .returned (numRes (addN m1 e1 m2 e2)) ∧ Below w.heap.size w w' := by
  have hx1 := right_exp h1
  have hx2 := right_exp h2
  have hd0 : 0 ≤ e1 - e2 := by omega
  have hsA : Keep (∀ w, Calls Tryz.prog 72 #[.agg #[.int .i64 m1, .int .i64 e1]] w fun r w' => r = .returned (.int .u64 A) ∧ Below w.heap.size w w') := ⟨fun w => by rw [← hA]; exact num_size m1 e1 hm1.lo hm1.hi w⟩
  have hsB : Keep (∀ w, Calls Tryz.prog 72 #[.agg #[.int .i64 m2, .int .i64 e2]] w fun r w' => r = .returned (.int .u64 B) ∧ Below w.heap.size w w') := ⟨fun w => by rw [← hB]; exact num_size m2 e2 hm2.lo hm2.hi w⟩
  have hA0 : 0 ≤ A := by omega
  have hA1 : A < 1000000000000000000 := by have := right_size h1; omega
  have hB0 : 0 ≤ B := by omega
  have hB1 : B < 1000000000000000000 := by have := right_size h2; omega
  have hTb := pten_bd (e1 - e2) hd0 hd
  rw [hT] at hTb
  obtain ⟨hT0, hT1⟩ := hTb
  have htc : Keep (∀ W, Glob W → W.cell? ⟨2, (e1 - e2).toNat, none⟩ = some (.int .u64 T)) := ⟨fun W hW => by rw [hW.tens _ (by omega), ← hT]; rfl⟩
  have hm1n : m1 ≠ 0 := by simpa using hz
  have hm2n : m2 ≠ 0 := by simpa using hy
  have HE1 := fun hs => add_end1 (e := e2) hA hB hT0 hm1n hm2n hs
  have HE2 := fun hs hh hl => add_end2 (e := e2) hA hB hT0 hm1n hm2n hs hh hl
  have HE3 := fun hs hh => add_end3 (e := e2) hA hB hT0 hm1n hm2n hB1 hs hh
  have HEE1 := Keep.mk HE1
  have HEE2 := Keep.mk HE2
  have HEE3 := Keep.mk HE3
  have HCO := Keep.mk (fun hh => carry_ok hA0 hA1 hT0 hT1 hB1 hh)
  clear HE1 HE2 HE3 hm1n hm2n
  have HT := Keep.mk hT
  have HN := Keep.mk (show addN m1 e1 m2 e2 = normZ (m1 * T + m2) e2 by rw [← hT]; exact add_near h1 h2 hd0)
  clear hA hB hT
  have hz1 := zero_of_right h1
  have hz2 := zero_of_right h2
  rw [hz] at hz1
  rw [hy] at hz2
  go_enter Tryz.func64, Tryz.ntmps64
  go_wp2_with fail
  refine (num_Right m1 e1 hm1.lo hm1.hi _ (hg.below (al3 _ _ _ _))).mono ?_
  rw [h1]; rintro r w1 ⟨rfl, hb⟩
  have hg1 := hg.below (up (al3 _ _ _ _) hb)
  obtain ⟨hc, hf⟩ := bcell hb
  go_wp2_with fail
  refine (num_Right m2 e2 hm2.lo hm2.hi _ hg1).mono ?_
  rw [h2]; rintro r w2 ⟨rfl, hb2⟩
  have hb3 := up hb hb2
  clear hc hf
  obtain ⟨hc, hf⟩ := bcell hb3
  go_wp2_with fail
  refine wp_region_from hb3 (by kernel_rfl) (by kernel_rfl) ?_
  repeat (go_big_quiet_step ((go_at_call 70; exact calls_above (num_zero _))))
  refine wpQuiet_nil ?_
  rintro _ ⟨x, rfl⟩
  have hb4 := x.property
  clear hc hf
  obtain ⟨hc, hf⟩ := bcell hb4
  go_wp2_with fail
  refine wp_region_from hb4 (by kernel_rfl) (by kernel_rfl) ?_
  repeat (go_big_quiet_step ((go_at_call 70; exact calls_above (num_zero _))))
  refine wpQuiet_nil ?_
  rintro _ ⟨x2, rfl⟩
  have hb5 := x2.property
  clear hc hf
  obtain ⟨hc, hf⟩ := bcell hb5
  have hg5 := hg.below (up (al3 _ _ _ _) hb5)
  go_wp2_with fail
  have ht : ∀ y : Above (((w.alloc (.cells #[.int .i64 m1, .int .i64 e1] 23)).alloc (.cells #[.int .i64 m2, .int .i64 e2] 23)).alloc (.cells #[.int .i64 0, .int .i64 0] 23)), y.val.cell? ⟨2, (e1 - e2).toNat, none⟩ = some (.int .u64 T) := fun y => htc.out _ (hg.below (up (al3 _ _ _ _) y.property))
  refine wp_region_from hb5 (by kernel_rfl) (by kernel_rfl) ?_
  repeat (go_big_quiet_step (first | (go_at_call 72; exact calls_above (hsA.out _)) | (go_at_call 71; exact calls_above (mul64 A T hA0 (by omega) (by omega) (by omega) _))))
  refine wpQuiet_nil ?_
  rintro _ ⟨x3, rfl⟩
  have hb6 := x3.property
  clear hc hf
  obtain ⟨hc, hf⟩ := bcell hb6
  go_wp2_with fail
  refine (hsB.out _).mono ?_
  rintro r w7 ⟨rfl, hb7⟩
  have hb8 := up hb6 hb7
  clear hc hf
  obtain ⟨hc, hf⟩ := bcell hb8
  go_wp2_with fail
  refine wp_region_from hb8 (by kernel_rfl) (by kernel_rfl) ?_
  repeat (go_big_quiet_step ((go_at_call 110; exact calls_above (num_sign _ _ _))))
  refine wpQuiet_nil ?_
  rintro _ ⟨x4, rfl⟩
  have hb9 := x4.property
  clear hc hf
  obtain ⟨hc, hf⟩ := bcell hb9
  have hm := mhi_bd hA0 (show A ≤ 1000000000000000000 by omega) (show 0 ≤ T by omega) hT1
  obtain ⟨hm0, hm1'⟩ := hm
  obtain ⟨hl0, hl1⟩ := mlo_bd A T
  obtain ⟨ha0, ha1⟩ := alo_bd (mlo A T) B
  obtain ⟨hs0, hs1⟩ := slo_bd (mlo A T) B
  obtain ⟨hc0, hc1⟩ := ahi_bd hl0 hl1 hB0 (show B < 18446744073709551616 by omega)
  have HL := Keep.mk (And.intro hl0 hl1)
  have HAL := Keep.mk (And.intro ha0 ha1)
  have HSL := Keep.mk (And.intro hs0 hs1)
  clear hl1 ha0 ha1 hs0 hs1
  have hB64 : B < 18446744073709551616 := by omega
  have hg9 := hg.below (up (al3 _ _ _ _) hb9)
  cases hsg : (m1.sign == m2.sign)
  · by_cases hh : mhi A T = 0 ∧ mlo A T < B
    · obtain ⟨hh1, hh2⟩ := hh
      have HF := Keep.mk ((HEE2.out hsg hh1 hh2).trans HN.out.symm)
      have hq : (mhi A T == 0) = true := by simpa using hh1
      clear hh1
      go_wp2_with fail
      refine (num_made (decide (m2 < 0)) 0 (B - mlo A T) e2 (by omega) (by omega) (by omega) (by omega) (by omega) (by omega) _ hg9).mono ?_
      rw [HF.out]
      generalize hp : addN m1 e1 m2 e2 = p
      obtain ⟨⟨pm, pe⟩, pr⟩ := p
      have HP := Keep.mk hp
      clear hp
      simp only [numRes]
      rintro r w10 ⟨rfl, hb10⟩
      have hb11 := up hb9 hb10
      clear hc hf
      obtain ⟨hc, hf⟩ := bcell hb11
      go_wp2
      refine bodyPost_ret (v := numRes ((pm, pe), pr)) ?_ rfl ⟨num_res HP.out.symm, ?_⟩
      · simp [numRes, results, Tryz.results64, go_sem, hc]
      · exact st1 (st1 (up (al3 _ _ _ _) hb11) _ _ _ (by omega)) _ _ _ (by omega)
    · have HF := Keep.mk ((HEE3.out hsg hh).trans HN.out.symm)
      obtain ⟨hco1, hco2⟩ := HCO.out hh
      obtain ⟨hsh0, hsh1⟩ := shi_bd (mlo A T) B
      have hsp : (mhi A T == 0) = false ∨ ((mhi A T == 0) = true ∧ decide (mlo A T < B) = false) := by
        by_cases h : mhi A T = 0
        · right; exact ⟨by simpa using h, by simp; omega⟩
        · left; simpa using h
      clear hh
      rcases hsp with hq | ⟨hq, hq2⟩
      all_goals
        go_wp2_with (simp only [sub64_0 (mlo A T) B hl0 hB0 hB64])
        refine (num_made (decide (m1 < 0)) (mhi A T - shi (mlo A T) B) (slo (mlo A T) B) e2 (by omega) (by omega) HSL.out.1 HSL.out.2 (by omega) (by omega) _ hg9).mono ?_
        rw [HF.out]
        generalize hp : addN m1 e1 m2 e2 = p
        obtain ⟨⟨pm, pe⟩, pr⟩ := p
        have HP := Keep.mk hp
        clear hp
        simp only [numRes]
        rintro r w10 ⟨rfl, hb10⟩
        have hb11 := up hb9 hb10
        clear hc hf
        obtain ⟨hc, hf⟩ := bcell hb11
        go_wp2
        refine bodyPost_ret (v := numRes ((pm, pe), pr)) ?_ rfl ⟨num_res HP.out.symm, ?_⟩
        · simp [numRes, results, Tryz.results64, go_sem, hc]
        · exact st1 (st1 (up (al3 _ _ _ _) hb11) _ _ _ (by omega)) _ _ _ (by omega)
  · have HF := Keep.mk ((HEE1.out hsg).trans HN.out.symm)
    go_wp2_with (simp only [add64_0 (mlo A T) B hl0 hB0])
    refine (num_made (decide (m1 < 0)) (mhi A T + ahi (mlo A T) B) (alo (mlo A T) B) e2 (by omega) (by omega) HAL.out.1 HAL.out.2 (by omega) (by omega) _ hg9).mono ?_
    rw [HF.out]
    generalize hp : addN m1 e1 m2 e2 = p
    obtain ⟨⟨pm, pe⟩, pr⟩ := p
    have HP := Keep.mk hp
    clear hp
    simp only [numRes]
    rintro r w10 ⟨rfl, hb10⟩
    have hb11 := up hb9 hb10
    clear hc hf
    obtain ⟨hc, hf⟩ := bcell hb11
    go_wp2
    refine bodyPost_ret (v := numRes ((pm, pe), pr)) ?_ rfl ⟨num_res HP.out.symm, ?_⟩
    · simp [numRes, results, Tryz.results64, go_sem, hc]
    · exact st1 (st1 (up (al3 _ _ _ _) hb11) _ _ _ (by omega)) _ _ _ (by omega)
-- GENERATED (wip/gen_add.py): the other order
theorem add_far2 (m1 e1 m2 e2 : Int) (hm1 : I64 m1) (hm2 : I64 m2) (h1 : right m1 e1 = true) (h2 : right m2 e2 = true) (hz : (m1 == 0) = false) (hy : (m2 == 0) = false) (hlt : e1 < e2) (hd : 18 < e2 - e1) (w : World) (hg : Glob w) : Calls Tryz.prog 64 #[.agg #[.int .i64 m1, .int .i64 e1], .agg #[.int .i64 m2, .int .i64 e2]] w fun r w' =>
    r = .returned (numRes ((0, 0), 11)) ∧ Below w.heap.size w w' := by
  have hx1 := right_exp h1
  have hx2 := right_exp h2
  have hz1 := zero_of_right h1
  have hz2 := zero_of_right h2
  rw [hz] at hz1
  rw [hy] at hz2
  go_enter Tryz.func64, Tryz.ntmps64
  go_wp2_with fail
  refine (num_Right m1 e1 hm1.lo hm1.hi _ (hg.below (al3 _ _ _ _))).mono ?_
  rw [h1]; rintro r w1 ⟨rfl, hb⟩
  have hg1 := hg.below (up (al3 _ _ _ _) hb)
  obtain ⟨hc, hf⟩ := bcell hb
  go_wp2_with fail
  refine (num_Right m2 e2 hm2.lo hm2.hi _ hg1).mono ?_
  rw [h2]; rintro r w2 ⟨rfl, hb2⟩
  have hb3 := up hb hb2
  clear hc hf
  obtain ⟨hc, hf⟩ := bcell hb3
  go_wp2_with fail
  refine wp_region_from hb3 (by kernel_rfl) (by kernel_rfl) ?_
  repeat (go_big_quiet_step ((go_at_call 70; exact calls_above (num_zero _))))
  refine wpQuiet_nil ?_
  rintro _ ⟨x, rfl⟩
  have hb4 := x.property
  clear hc hf
  obtain ⟨hc, hf⟩ := bcell hb4
  go_wp2_with fail
  refine wp_region_from hb4 (by kernel_rfl) (by kernel_rfl) ?_
  repeat (go_big_quiet_step ((go_at_call 70; exact calls_above (num_zero _))))
  refine wpQuiet_nil ?_
  rintro _ ⟨x2, rfl⟩
  have hb5 := x2.property
  clear hc hf
  obtain ⟨hc, hf⟩ := bcell hb5
  have n2 : w.heap.size + 1 + 1 < x2.val.heap.size := by have := hb5.size; simp at this; omega
  have n1 : w.heap.size + 1 < x2.val.heap.size := by omega
  have n0 : w.heap.size < x2.val.heap.size := by omega
  have k0 : x2.val.cell? ⟨w.heap.size, 0, none⟩ = some (.int .i64 m1) := by simp [go_sem, hc]
  have k1 : x2.val.cell? ⟨w.heap.size, 1, none⟩ = some (.int .i64 e1) := by simp [go_sem, hc]
  have k2 : x2.val.cell? ⟨w.heap.size + 1, 0, none⟩ = some (.int .i64 m2) := by simp [go_sem, hc]
  have k3 : x2.val.cell? ⟨w.heap.size + 1, 1, none⟩ = some (.int .i64 e2) := by simp [go_sem, hc]
  have k4 : x2.val.cell? ⟨w.heap.size + 1 + 1, 0, none⟩ = some (.int .i64 0) := by simp [go_sem, hc]
  have k5 : x2.val.cell? ⟨w.heap.size + 1 + 1, 1, none⟩ = some (.int .i64 0) := by simp [go_sem, hc]
  have l0 : ∀ o, x2.val.frozen? ⟨w.heap.size, o, none⟩ = false := by simp [go_sem, hf]
  have l1 : ∀ o, x2.val.frozen? ⟨w.heap.size + 1, o, none⟩ = false := by simp [go_sem, hf]
  have l2 : ∀ o, x2.val.frozen? ⟨w.heap.size + 1 + 1, o, none⟩ = false := by simp [go_sem, hf]
  clear hc hf
  go_wp2_with fail
  refine (num_zero _).mono ?_
  rintro r w6 ⟨rfl, hb6⟩
  have hb7 : Below w.heap.size w w6 := by
    refine up ?_ hb6
    exact st1 (st1 (st1 (st1 (up (al3 _ _ _ _) hb5) _ _ _ (by omega)) _ _ _ (by omega)) _ _ _ (by omega)) _ _ _ (by omega)
  obtain ⟨hc6, hf6⟩ := bcell hb6
  go_wp2
  refine bodyPost_ret (v := numRes ((0, 0), 11)) ?_ rfl ⟨rfl, ?_⟩
  · simp [numRes, results, Tryz.results64, go_sem, hc6, k4, k5, n2]
  · exact st1 (st1 hb7 _ _ _ (by omega)) _ _ _ (by omega)
set_option maxRecDepth 100000 in
theorem add_near_walk2 (m1 e1 m2 e2 : Int) (hm1 : I64 m1) (hm2 : I64 m2) (h1 : right m1 e1 = true) (h2 : right m2 e2 = true) (hz : (m1 == 0) = false) (hy : (m2 == 0) = false) (hlt : e1 < e2) (hd : e2 - e1 ≤ 18) (A B T : Int) (hA : (m2.natAbs : Int) = A) (hB : (m1.natAbs : Int) = B) (hT : pten (e2 - e1) = T) (w : World) (hg : Glob w) : Calls Tryz.prog 64 #[.agg #[.int .i64 m1, .int .i64 e1], .agg #[.int .i64 m2, .int .i64 e2]] w fun r w' =>
    r = .returned (numRes (addN m1 e1 m2 e2)) ∧ Below w.heap.size w w' := by
  rw [addN_comm]
  have hx1 := right_exp h1
  have hx2 := right_exp h2
  have hd0 : 0 ≤ e2 - e1 := by omega
  have hsA : Keep (∀ w, Calls Tryz.prog 72 #[.agg #[.int .i64 m2, .int .i64 e2]] w fun r w' => r = .returned (.int .u64 A) ∧ Below w.heap.size w w') := ⟨fun w => by rw [← hA]; exact num_size m2 e2 hm2.lo hm2.hi w⟩
  have hsB : Keep (∀ w, Calls Tryz.prog 72 #[.agg #[.int .i64 m1, .int .i64 e1]] w fun r w' => r = .returned (.int .u64 B) ∧ Below w.heap.size w w') := ⟨fun w => by rw [← hB]; exact num_size m1 e1 hm1.lo hm1.hi w⟩
  have hA0 : 0 ≤ A := by omega
  have hA1 : A < 1000000000000000000 := by have := right_size h2; omega
  have hB0 : 0 ≤ B := by omega
  have hB1 : B < 1000000000000000000 := by have := right_size h1; omega
  have hTb := pten_bd (e2 - e1) hd0 hd
  rw [hT] at hTb
  obtain ⟨hT0, hT1⟩ := hTb
  have htc : Keep (∀ W, Glob W → W.cell? ⟨2, (e2 - e1).toNat, none⟩ = some (.int .u64 T)) := ⟨fun W hW => by rw [hW.tens _ (by omega), ← hT]; rfl⟩
  have hm1n : m2 ≠ 0 := by simpa using hy
  have hm2n : m1 ≠ 0 := by simpa using hz
  have HE1 := fun hs => add_end1 (e := e1) hA hB hT0 hm1n hm2n hs
  have HE2 := fun hs hh hl => add_end2 (e := e1) hA hB hT0 hm1n hm2n hs hh hl
  have HE3 := fun hs hh => add_end3 (e := e1) hA hB hT0 hm1n hm2n hB1 hs hh
  have HEE1 := Keep.mk HE1
  have HEE2 := Keep.mk HE2
  have HEE3 := Keep.mk HE3
  have HCO := Keep.mk (fun hh => carry_ok hA0 hA1 hT0 hT1 hB1 hh)
  clear HE1 HE2 HE3 hm1n hm2n
  have HT := Keep.mk hT
  have HN := Keep.mk (show addN m2 e2 m1 e1 = normZ (m2 * T + m1) e1 by rw [← hT]; exact add_near h2 h1 hd0)
  clear hA hB hT
  have hz1 := zero_of_right h1
  have hz2 := zero_of_right h2
  rw [hz] at hz1
  rw [hy] at hz2
  go_enter Tryz.func64, Tryz.ntmps64
  go_wp2_with fail
  refine (num_Right m1 e1 hm1.lo hm1.hi _ (hg.below (al3 _ _ _ _))).mono ?_
  rw [h1]; rintro r w1 ⟨rfl, hb⟩
  have hg1 := hg.below (up (al3 _ _ _ _) hb)
  obtain ⟨hc, hf⟩ := bcell hb
  go_wp2_with fail
  refine (num_Right m2 e2 hm2.lo hm2.hi _ hg1).mono ?_
  rw [h2]; rintro r w2 ⟨rfl, hb2⟩
  have hb3 := up hb hb2
  clear hc hf
  obtain ⟨hc, hf⟩ := bcell hb3
  go_wp2_with fail
  refine wp_region_from hb3 (by kernel_rfl) (by kernel_rfl) ?_
  repeat (go_big_quiet_step ((go_at_call 70; exact calls_above (num_zero _))))
  refine wpQuiet_nil ?_
  rintro _ ⟨x, rfl⟩
  have hb4 := x.property
  clear hc hf
  obtain ⟨hc, hf⟩ := bcell hb4
  go_wp2_with fail
  refine wp_region_from hb4 (by kernel_rfl) (by kernel_rfl) ?_
  repeat (go_big_quiet_step ((go_at_call 70; exact calls_above (num_zero _))))
  refine wpQuiet_nil ?_
  rintro _ ⟨x2, rfl⟩
  have hb5 := x2.property
  clear hc hf
  obtain ⟨hc, hf⟩ := bcell hb5
  have n2 : w.heap.size + 1 + 1 < x2.val.heap.size := by have := hb5.size; simp at this; omega
  have n1 : w.heap.size + 1 < x2.val.heap.size := by omega
  have n0 : w.heap.size < x2.val.heap.size := by omega
  have k0 : x2.val.cell? ⟨w.heap.size, 0, none⟩ = some (.int .i64 m1) := by simp [go_sem, hc]
  have k1 : x2.val.cell? ⟨w.heap.size, 1, none⟩ = some (.int .i64 e1) := by simp [go_sem, hc]
  have k2 : x2.val.cell? ⟨w.heap.size + 1, 0, none⟩ = some (.int .i64 m2) := by simp [go_sem, hc]
  have k3 : x2.val.cell? ⟨w.heap.size + 1, 1, none⟩ = some (.int .i64 e2) := by simp [go_sem, hc]
  have k4 : x2.val.cell? ⟨w.heap.size + 1 + 1, 0, none⟩ = some (.int .i64 0) := by simp [go_sem, hc]
  have k5 : x2.val.cell? ⟨w.heap.size + 1 + 1, 1, none⟩ = some (.int .i64 0) := by simp [go_sem, hc]
  have l0 : ∀ o, x2.val.frozen? ⟨w.heap.size, o, none⟩ = false := by simp [go_sem, hf]
  have l1 : ∀ o, x2.val.frozen? ⟨w.heap.size + 1, o, none⟩ = false := by simp [go_sem, hf]
  have l2 : ∀ o, x2.val.frozen? ⟨w.heap.size + 1 + 1, o, none⟩ = false := by simp [go_sem, hf]
  clear hc hf
  go_wp2_with fail
  refine wp_world (fun W => Below w.heap.size w W ∧ w.heap.size + 1 + 1 < W.heap.size ∧ W.cell? ⟨w.heap.size, 0, none⟩ = some (.int .i64 m2) ∧ W.cell? ⟨w.heap.size, 1, none⟩ = some (.int .i64 e2) ∧ W.cell? ⟨w.heap.size + 1, 0, none⟩ = some (.int .i64 m1) ∧ W.cell? ⟨w.heap.size + 1, 1, none⟩ = some (.int .i64 e1) ∧
    W.cell? ⟨w.heap.size + 1 + 1, 0, none⟩ = some (.int .i64 0) ∧ W.cell? ⟨w.heap.size + 1 + 1, 1, none⟩ = some (.int .i64 0) ∧ (∀ o, W.frozen? ⟨w.heap.size + 1 + 1, o, none⟩ = false)) ?_ ?_
  · refine ⟨st1 (st1 (st1 (st1 (up (al3 _ _ _ _) hb5) _ _ _ (by omega)) _ _ _ (by omega)) _ _ _ (by omega)) _ _ _ (by omega), ?_, ?_, ?_, ?_, ?_, ?_, ?_, ?_⟩
    all_goals simp [go_sem, k0, k1, k2, k3, k4, k5, l2, n2]
  rintro W ⟨hbW, q2, c1, c2, c3, c4, c5, c6, c7⟩
  have q1 : w.heap.size + 1 < W.heap.size := by omega
  have q0 : w.heap.size < W.heap.size := by omega
  have hb5' := hb5
  clear hb hb2 hb3 hb4 hb5 hb5' n0 n1 n2 k0 k1 k2 k3 k4 k5 l0 l1 l2
  have ht : ∀ y : Above W, y.val.cell? ⟨2, (e2 - e1).toNat, none⟩ = some (.int .u64 T) := fun y => htc.out _ (hg.below (up hbW y.property))
  refine wp_region_from (Below.refl _ W) (by kernel_rfl) (by kernel_rfl) ?_
  repeat (go_big_quiet_step (first | (go_at_call 72; exact calls_above (hsA.out _)) | (go_at_call 71; exact calls_above (mul64 A T hA0 (by omega) (by omega) (by omega) _))))
  refine wpQuiet_nil ?_
  rintro _ ⟨x3, rfl⟩
  have hb6 := x3.property
  obtain ⟨hc, hf⟩ := bcell hb6
  go_wp2_with fail
  refine (hsB.out _).mono ?_
  rintro r w7 ⟨rfl, hb7⟩
  have hb8 := up hb6 hb7
  clear hc hf
  obtain ⟨hc, hf⟩ := bcell hb8
  go_wp2_with fail
  refine wp_region_from hb8 (by kernel_rfl) (by kernel_rfl) ?_
  repeat (go_big_quiet_step ((go_at_call 110; exact calls_above (num_sign _ _ _))))
  refine wpQuiet_nil ?_
  rintro _ ⟨x4, rfl⟩
  have hb9 := x4.property
  clear hc hf
  obtain ⟨hc, hf⟩ := bcell hb9
  have hm := mhi_bd hA0 (show A ≤ 1000000000000000000 by omega) (show 0 ≤ T by omega) hT1
  obtain ⟨hm0, hm1'⟩ := hm
  obtain ⟨hl0, hl1⟩ := mlo_bd A T
  obtain ⟨ha0, ha1⟩ := alo_bd (mlo A T) B
  obtain ⟨hs0, hs1⟩ := slo_bd (mlo A T) B
  obtain ⟨hc0, hc1⟩ := ahi_bd hl0 hl1 hB0 (show B < 18446744073709551616 by omega)
  have HL := Keep.mk (And.intro hl0 hl1)
  have HAL := Keep.mk (And.intro ha0 ha1)
  have HSL := Keep.mk (And.intro hs0 hs1)
  clear hl1 ha0 ha1 hs0 hs1
  have hB64 : B < 18446744073709551616 := by omega
  have hg9 := hg.below (up hbW hb9)
  cases hsg : (m2.sign == m1.sign)
  · by_cases hh : mhi A T = 0 ∧ mlo A T < B
    · obtain ⟨hh1, hh2⟩ := hh
      have HF := Keep.mk ((HEE2.out hsg hh1 hh2).trans HN.out.symm)
      have hq : (mhi A T == 0) = true := by simpa using hh1
      clear hh1
      go_wp2_with fail
      refine (num_made (decide (m1 < 0)) 0 (B - mlo A T) e1 (by omega) (by omega) (by omega) (by omega) (by omega) (by omega) _ hg9).mono ?_
      rw [HF.out]
      generalize hp : addN m2 e2 m1 e1 = p
      obtain ⟨⟨pm, pe⟩, pr⟩ := p
      have HP := Keep.mk hp
      clear hp
      simp only [numRes]
      rintro r w10 ⟨rfl, hb10⟩
      have hb11 := up hb9 hb10
      clear hc hf
      obtain ⟨hc, hf⟩ := bcell hb11
      go_wp2
      refine bodyPost_ret (v := numRes ((pm, pe), pr)) ?_ rfl ⟨num_res HP.out.symm, ?_⟩
      · simp [numRes, results, Tryz.results64, go_sem, hc, q2, c5, c6]
      · exact st1 (st1 (up hbW hb11) _ _ _ (by omega)) _ _ _ (by omega)
    · have HF := Keep.mk ((HEE3.out hsg hh).trans HN.out.symm)
      obtain ⟨hco1, hco2⟩ := HCO.out hh
      obtain ⟨hsh0, hsh1⟩ := shi_bd (mlo A T) B
      have hsp : (mhi A T == 0) = false ∨ ((mhi A T == 0) = true ∧ decide (mlo A T < B) = false) := by
        by_cases h : mhi A T = 0
        · right; exact ⟨by simpa using h, by simp; omega⟩
        · left; simpa using h
      clear hh
      rcases hsp with hq | ⟨hq, hq2⟩
      all_goals
        go_wp2_with (simp only [sub64_0 (mlo A T) B hl0 hB0 hB64])
        refine (num_made (decide (m2 < 0)) (mhi A T - shi (mlo A T) B) (slo (mlo A T) B) e1 (by omega) (by omega) HSL.out.1 HSL.out.2 (by omega) (by omega) _ hg9).mono ?_
        rw [HF.out]
        generalize hp : addN m2 e2 m1 e1 = p
        obtain ⟨⟨pm, pe⟩, pr⟩ := p
        have HP := Keep.mk hp
        clear hp
        simp only [numRes]
        rintro r w10 ⟨rfl, hb10⟩
        have hb11 := up hb9 hb10
        clear hc hf
        obtain ⟨hc, hf⟩ := bcell hb11
        go_wp2
        refine bodyPost_ret (v := numRes ((pm, pe), pr)) ?_ rfl ⟨num_res HP.out.symm, ?_⟩
        · simp [numRes, results, Tryz.results64, go_sem, hc, q2, c5, c6]
        · exact st1 (st1 (up hbW hb11) _ _ _ (by omega)) _ _ _ (by omega)
  · have HF := Keep.mk ((HEE1.out hsg).trans HN.out.symm)
    go_wp2_with (simp only [add64_0 (mlo A T) B hl0 hB0])
    refine (num_made (decide (m2 < 0)) (mhi A T + ahi (mlo A T) B) (alo (mlo A T) B) e1 (by omega) (by omega) HAL.out.1 HAL.out.2 (by omega) (by omega) _ hg9).mono ?_
    rw [HF.out]
    generalize hp : addN m2 e2 m1 e1 = p
    obtain ⟨⟨pm, pe⟩, pr⟩ := p
    have HP := Keep.mk hp
    clear hp
    simp only [numRes]
    rintro r w10 ⟨rfl, hb10⟩
    have hb11 := up hb9 hb10
    clear hc hf
    obtain ⟨hc, hf⟩ := bcell hb11
    go_wp2
    refine bodyPost_ret (v := numRes ((pm, pe), pr)) ?_ rfl ⟨num_res HP.out.symm, ?_⟩
    · simp [numRes, results, Tryz.results64, go_sem, hc, q2, c5, c6]
    · exact st1 (st1 (up hbW hb11) _ _ _ (by omega)) _ _ _ (by omega)
theorem num_add (m1 e1 m2 e2 : Int) (hm1 : I64 m1) (hm2 : I64 m2) (w : World) (hg : Glob w) : Calls Tryz.prog 64 #[.agg #[.int .i64 m1, .int .i64 e1], .agg #[.int .i64 m2, .int .i64 e2]] w fun r w' =>
    r = .returned (numRes (addN m1 e1 m2 e2)) ∧ Below w.heap.size w w' := by
  cases h1 : right m1 e1
  · rw [addN_wrong (Or.inl h1)]; exact add_wrong m1 e1 m2 e2 hm1 hm2 (Or.inl h1) w hg
  · cases h2 : right m2 e2
    · rw [addN_wrong (Or.inr h2)]; exact add_wrong m1 e1 m2 e2 hm1 hm2 (Or.inr ⟨h1, h2⟩) w hg
    · by_cases hz : m1 = 0
      · subst hz
        rw [addN_zero_left h1 h2]; exact add_zero1 0 e1 m2 e2 hm1 hm2 h1 h2 rfl w hg
      · have hz' : (m1 == 0) = false := by simpa using hz
        by_cases hy : m2 = 0
        · subst hy
          rw [addN_zero_right h1 h2]; exact add_zero2 m1 e1 0 e2 hm1 hm2 h1 h2 hz' rfl w hg
        · have hy' : (m2 == 0) = false := by simpa using hy
          by_cases hlt : e1 < e2
          · by_cases hd : 18 < e2 - e1
            · rw [addN_comm, addN_far h2 h1 hy hz hd]; exact add_far2 m1 e1 m2 e2 hm1 hm2 h1 h2 hz' hy' hlt hd w hg
            · exact add_near_walk2 m1 e1 m2 e2 hm1 hm2 h1 h2 hz' hy' hlt (by omega) _ _ _ rfl rfl rfl w hg
          · by_cases hd : 18 < e1 - e2
            · rw [addN_far h1 h2 hz hy hd]; exact add_far m1 e1 m2 e2 hm1 hm2 h1 h2 hz' hy' (by omega) hd w hg
            · exact add_near_walk m1 e1 m2 e2 hm1 hm2 h1 h2 hz' hy' (by omega) (by omega) _ _ _ rfl rfl rfl w hg
end Go.Proofs.YtnkokhpadcgfbaaGreatDoor
