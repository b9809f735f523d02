/- num.Div. Conditions: Glob; the numbers are of int64 and int. -/
import Derived.Test.YtljemfajjeoecaaDoorRem
import Derived.Test.YtljemfajjeoecaaDoorNumMath
namespace Go.Proofs.YtljemfajjeoecaaDoor
open Go Go.RowKit Go.Proofs Th
attribute [local go_sem] Above.cell Above.frozen

def divN (m1 e1 m2 e2 : Int) : (Int × Int) × Int :=
  if wrongS m1 e1 m2 e2 ≠ 0 then ((0, 0), wrongS m1 e1 m2 e2) else divR m1.natAbs m2.natAbs (decide (m1 < 0) != decide (m2 < 0)) (e1 - e2)

set_option maxRecDepth 100000 in
theorem div_wrong (m1 e1 m2 e2 : Int) (hm1 : I64 m1) (hm2 : I64 m2) (c : Int) (hw : wrongS m1 e1 m2 e2 = c) (hc0 : (c != 0) = true) (w : World) (hg : Glob w) : Calls Tryd.prog 35 #[.agg #[.int .i64 m1, .int .i64 e1], .agg #[.int .i64 m2, .int .i64 e2]] w fun r w' =>
    r = .returned (numRes ((0, 0), c)) ∧ Below w.heap.size w w' := by
  have HW := Keep.mk hw
  clear hw
  go_enter Tryd.func35, Tryd.ntmps35
  go_wp2_with fail
  refine (num_wrong m1 e1 m2 e2 hm1 hm2 _ (hg.below (al3 _ _ _ _))).mono ?_
  rw [HW.out]
  rintro r w1 ⟨rfl, hb1⟩
  obtain ⟨hc, hf⟩ := bcell hb1
  go_wp2_with fail
  refine (num_zero _).mono ?_
  rintro r w2 ⟨rfl, hb2'⟩
  have hb2 := up hb1 hb2'
  clear hc hf
  obtain ⟨hc, hf⟩ := bcell hb2
  go_wp2
  refine bodyPost_ret (v := numRes ((0, 0), c)) ?_ rfl ⟨rfl, ?_⟩
  · simp [numRes, results, Tryd.results35, go_sem, hc]
  · exact st1 (st1 (up (al3 _ _ _ _) hb2) _ _ _ (by omega)) _ _ _ (by omega)

set_option maxRecDepth 100000 in
theorem div_zero (m1 e1 m2 e2 : Int) (hm1 : I64 m1) (hm2 : I64 m2) (hw : wrongS m1 e1 m2 e2 = 0) (hz : (m1 == 0 && e1 == 0) = true) (w : World) (hg : Glob w) : Calls Tryd.prog 35 #[.agg #[.int .i64 m1, .int .i64 e1], .agg #[.int .i64 m2, .int .i64 e2]] w fun r w' =>
    r = .returned (numRes ((0, 0), 0)) ∧ Below w.heap.size w w' := by
  have HW := Keep.mk hw
  clear hw
  go_enter Tryd.func35, Tryd.ntmps35
  go_wp2_with fail
  refine (num_wrong m1 e1 m2 e2 hm1 hm2 _ (hg.below (al3 _ _ _ _))).mono ?_
  rw [HW.out]
  rintro r w1 ⟨rfl, hb1⟩
  obtain ⟨hc, hf⟩ := bcell hb1
  go_wp2_with fail
  refine wp_region_from hb1 (by kernel_rfl) (by kernel_rfl) ?_
  repeat (go_big_quiet_step ((go_at_call 55; exact calls_above (num_zero _))))
  refine wpQuiet_nil ?_
  rintro _ ⟨x2, rfl⟩
  have hb2 := x2.property
  clear hc hf
  obtain ⟨hc, hf⟩ := bcell hb2
  go_wp2_with fail
  refine (num_zero _).mono ?_
  rintro r w3 ⟨rfl, hb3'⟩
  have hb3 := up hb2 hb3'
  clear hc hf
  obtain ⟨hc, hf⟩ := bcell hb3
  go_wp2
  refine bodyPost_ret (v := numRes ((0, 0), 0)) ?_ rfl ⟨rfl, ?_⟩
  · simp [numRes, results, Tryd.results35, go_sem, hc]
  · exact st1 (st1 (up (al3 _ _ _ _) hb3) _ _ _ (by omega)) _ _ _ (by omega)

theorem mh_small {n c : Nat} (h : n * c < 18446744073709551616) : mhi (n : Int) (c : Int) = 0 ∧ mlo (n : Int) (c : Int) = ((n * c : Nat) : Int) := by
  unfold mhi mlo; rw [← Int.natCast_mul]; omega
theorem mh_big {n c : Nat} (h : ¬ n * c < 18446744073709551616) : 0 < mhi (n : Int) (c : Int) := by
  unfold mhi; rw [← Int.natCast_mul]; omega
theorem quo_u64 {a g : Nat} (h : a < 1000000000000000000) : IntKind.u64.wrap ((a : Int) / (g : Int)) = ((a / g : Nat) : Int) := by
  have := Nat.div_le_self a g
  rw [← Int.natCast_ediv, IntKind.wrap_u64]; generalize a / g = q at *; omega

set_option maxRecDepth 100000 in
theorem div_some (m1 e1 m2 e2 : Int) (hm1 : I64 m1) (hm2 : I64 m2) (hw : wrongS m1 e1 m2 e2 = 0) (hz : (m1 == 0 && e1 == 0) = false) (h1 : right m1 e1 = true) (h2 : right m2 e2 = true) (a b g : Nat) (ha : m1.natAbs = a) (hb : m2.natAbs = b) (hG : Nat.gcd a b = g) (ha0 : 0 < a) (hb0 : 0 < b) (w : World) (hg : Glob w) : Calls Tryd.prog 35 #[.agg #[.int .i64 m1, .int .i64 e1], .agg #[.int .i64 m2, .int .i64 e2]] w fun r w' =>
    r = .returned (numRes (divR a b (decide (m1 < 0) != decide (m2 < 0)) (e1 - e2))) ∧ Below w.heap.size w w' := by
  have hx1 := right_exp h1
  have hx2 := right_exp h2
  have hs1 := right_size h1
  have hs2 := right_size h2
  have hsA : Keep (∀ w, Calls Tryd.prog 65 #[.agg #[.int .i64 m1, .int .i64 e1]] w fun r w' => r = .returned (.int .u64 a) ∧ Below w.heap.size w w') := ⟨fun w => by rw [← ha]; exact num_size m1 e1 hm1.lo hm1.hi w⟩
  have hsB : Keep (∀ w, Calls Tryd.prog 65 #[.agg #[.int .i64 m2, .int .i64 e2]] w fun r w' => r = .returned (.int .u64 b) ∧ Below w.heap.size w w') := ⟨fun w => by rw [← hb]; exact num_size m2 e2 hm2.lo hm2.hi w⟩
  have hsG : Keep (∀ w, Calls Tryd.prog 76 #[.int .u64 a, .int .u64 b] w fun r w' => r = .returned (.int .u64 g) ∧ Below w.heap.size w w') := ⟨fun w => by rw [← hG]; exact num_common a b w⟩
  have HR := Keep.mk (divR_reduce a b hb0)
  have HC := Keep.mk (reduce_coprime a b hb0)
  rw [hG] at HR HC
  have hg0 : 0 < g := by rw [← hG]; exact Nat.gcd_pos_of_pos_right _ hb0
  have hd0 : 0 < b / g := by rw [← hG]; exact Nat.div_pos (Nat.gcd_le_right _ hb0) (by omega)
  have hn0 : 0 < a / g := by rw [← hG]; exact Nat.div_pos (Nat.gcd_le_left _ ha0) (by omega)
  have hal : a < 1000000000000000000 := by omega
  have hbl : b < 1000000000000000000 := by omega
  have HW := Keep.mk hw
  clear hw hG ha hb hs1 hs2
  go_enter Tryd.func35, Tryd.ntmps35
  go_wp2_with fail
  refine (num_wrong m1 e1 m2 e2 hm1 hm2 _ (hg.below (al3 _ _ _ _))).mono ?_
  rw [HW.out]
  rintro r w1 ⟨rfl, hb1⟩
  obtain ⟨hc, hf⟩ := bcell hb1
  go_wp2_with fail
  refine wp_region_from hb1 (by kernel_rfl) (by kernel_rfl) ?_
  repeat (go_big_quiet_step ((go_at_call 55; exact calls_above (num_zero _))))
  refine wpQuiet_nil ?_
  rintro _ ⟨x2, rfl⟩
  have hb2 := x2.property
  clear hc hf
  obtain ⟨hc, hf⟩ := bcell hb2
  go_wp2_with fail
  refine wp_region_from hb2 (by kernel_rfl) (by kernel_rfl) ?_
  repeat (go_big_quiet_step (first | (go_at_call 65; with_reducible exact calls_above (hsA.out _)) | (go_at_call 65; with_reducible exact calls_above (hsB.out _)) | (go_at_call 76; with_reducible exact calls_above (hsG.out _))))
  refine wpQuiet_nil ?_
  rintro _ ⟨x3, rfl⟩
  have hb3 := x3.property
  clear hc hf
  obtain ⟨hc, hf⟩ := bcell hb3
  go_wp2_with fail
  refine wp_region_from hb3 (by kernel_rfl) (by kernel_rfl) ?_
  repeat (go_big_quiet_step (first | (go_at_call 65; with_reducible exact calls_above (hsA.out _)) | (go_at_call 65; with_reducible exact calls_above (hsB.out _))))
  refine wpQuiet_nil ?_
  rintro _ ⟨x4, rfl⟩
  have hb4 := x4.property
  clear hc hf
  obtain ⟨hc, hf⟩ := bcell hb4
  go_wp2_with fail
  rw [quo_u64 (g := g) hal, quo_u64 (g := g) hbl]
  have hnl := Nat.div_le_self a g
  have hdl := Nat.div_le_self b g
  generalize a / g = n0 at *
  generalize b / g = d0 at *
  have HS := Keep.mk (DivInv.start HC.out hd0)
  generalize hP : (decide (m1 < 0) != decide (m2 < 0)) = P at HR ⊢
  have hd64 : d0 < 2 ^ 64 := by omega
  have HD64 := Keep.mk hd64
  clear hd64
  have hn0l : n0 < 18446744073709551616 := by omega
  have hd0l : d0 < 18446744073709551616 := by omega
  have he0 : Keep (e1 - e2 = e1 - e2 - (0 : Nat)) := ⟨by omega⟩
  generalize hf0 : e1 - e2 = f0 at *
  have hf1 : -128 ≤ f0 := by omega
  have hf2 : f0 ≤ 128 := by omega
  go_loopw [9, 10, 11] (fun n d e wr => ∃ (N D k : Nat) (f : Int), N < 18446744073709551616 ∧ D < 18446744073709551616 ∧ k < 64 ∧ -192 ≤ f ∧ f ≤ 128 ∧ Keep (DivInv n0 d0 N D k) ∧ Keep (f = f0 - k) ∧ n = .int .u64 N ∧ d = .int .u64 D ∧ e = .int .i64 f ∧ Below (((w.alloc (.cells #[.int .i64 m1, .int .i64 e1] 23)).alloc (.cells #[.int .i64 m2, .int .i64 e2] 23)).alloc (.cells #[.int .i64 0, .int .i64 0] 23)).heap.size (((w.alloc (.cells #[.int .i64 m1, .int .i64 e1] 23)).alloc (.cells #[.int .i64 m2, .int .i64 e2] 23)).alloc (.cells #[.int .i64 0, .int .i64 0] 23)) wr) (fun _ d _ _ => (intOf d).toNat)
  case atStart => exact ⟨n0, d0, 0, f0, hn0l, hd0l, by omega, by omega, by omega, HS, ⟨by simp⟩, rfl, rfl, rfl, hb4⟩
  case round =>
    obtain ⟨N, D, k, f, hN, hD, hk, hfl, hfh, HI, HF, rfl, rfl, rfl, hbw⟩ := hrel
    clear hc hf
    obtain ⟨hc, hf⟩ := bcell hbw
    by_cases hD1 : D ≤ 1
    · have HE := Keep.mk ((HR.out P f0).trans (divR_end HI.out hD1 HD64.out P f0))
      have hk2 : f0 - k = f := HF.out.symm
      rw [hk2] at HE
      clear hk2
      go_wp2_with fail
      refine (num_made (decide (m1 < 0) != decide (m2 < 0)) 0 N f (by omega) (by omega) (by omega) (by omega) (by omega) (by omega) _ (hg.below (up (al3 _ _ _ _) hbw))).mono ?_
      rw [hP, show wide 0 (N : Int) = N by unfold wide; omega]
      generalize hres : norm P N f = res
      rw [hres] at HE
      clear hres
      simp only [numRes]
      rintro r w11 ⟨rfl, hb11'⟩
      have hb11 := up hbw hb11'
      clear hc hf
      obtain ⟨hc, hf⟩ := bcell hb11
      go_wp2
      refine bodyPost_ret (v := numRes res) ?_ rfl ⟨num_res (by rw [hP, hf0]; exact HE.out.symm), ?_⟩
      · simp [numRes, results, Tryd.results35, go_sem, hc]
      · exact st1 (st1 (up (al3 _ _ _ _) hb11) _ _ _ (by omega)) _ _ _ (by omega)
    · by_cases h10 : D % 10 = 0
      · have HI2 := Keep.mk (HI.out.ten h10)
        by_cases hs : N * 1 < 18446744073709551616
        · have hm : mhi (N : Int) 1 = 0 ∧ mlo (N : Int) 1 = ((N * 1 : Nat) : Int) := mh_small (c := 1) hs
          obtain ⟨hm1, hm2⟩ := hm
          go_wp2_with fail
          refine (mul64 N 1 (by omega) (by omega) (by omega) (by omega) _).mono ?_
          rw [hm1, hm2]
          rintro r wm ⟨rfl, hbm⟩
          have hbm := up hbw hbm
          go_wp2
          go_roundw
          case rel =>
            have hk2 := k_small HI2.out HD64.out
            have hf2 := HF.out
            exact ⟨N * 1, D / 10, k + 1, f - 1, hs, by omega, hk2, by omega, by omega, ⟨by rw [Nat.mul_one]; exact HI2.out⟩, ⟨by omega⟩, by go_num, by go_num, by go_num, hbm⟩
          case measure => simp [intOf]; omega
        · exfalso; omega
      · by_cases h5 : D % 5 = 0
        · have HI2 := Keep.mk (HI.out.five h10 h5)
          by_cases hs : N * 2 < 18446744073709551616
          · have hm : mhi (N : Int) 2 = 0 ∧ mlo (N : Int) 2 = ((N * 2 : Nat) : Int) := mh_small (c := 2) hs
            obtain ⟨hm1, hm2⟩ := hm
            go_wp2_with fail
            refine (mul64 N 2 (by omega) (by omega) (by omega) (by omega) _).mono ?_
            rw [hm1, hm2]
            rintro r wm ⟨rfl, hbm⟩
            have hbm := up hbw hbm
            go_wp2
            go_roundw
            case rel =>
              have hk2 := k_small HI2.out.1 HD64.out
              have hf2 := HF.out
              exact ⟨N * 2, D / 5, k + 1, f - 1, hs, by omega, hk2, by omega, by omega, ⟨HI2.out.1⟩, ⟨by omega⟩, by go_num, by go_num, by go_num, hbm⟩
            case measure => simp [intOf]; omega
          · have HE := Keep.mk ((HR.out P f0).trans (divR_over HI2.out.1 hn0 (by omega) HI2.out.2 P f0))
            have hm := mh_big (c := 2) hs
            go_wp2_with fail
            refine (mul64 N 2 (by omega) (by omega) (by omega) (by omega) _).mono ?_
            have hm : 0 < mhi (N : Int) 2 := hm
            generalize mhi (N : Int) 2 = H at *
            generalize mlo (N : Int) 2 = L at *
            rintro r wm ⟨rfl, hbm⟩
            have hbm := up hbw hbm
            clear hc hf
            obtain ⟨hc, hf⟩ := bcell hbm
            go_wp2_with fail
            refine (num_zero _).mono ?_
            rintro r w11 ⟨rfl, hb11'⟩
            have hb11 := up hbm hb11'
            clear hc hf
            obtain ⟨hc, hf⟩ := bcell hb11
            go_wp2
            refine bodyPost_ret (v := numRes ((0, 0), 11)) ?_ rfl ⟨num_res (by rw [hP, hf0]; exact HE.out.symm), ?_⟩
            · simp [numRes, results, Tryd.results35, go_sem, hc]
            · exact st1 (st1 (up (al3 _ _ _ _) hb11) _ _ _ (by omega)) _ _ _ (by omega)
        · by_cases h2 : D % 2 = 0
          · have HI2 := Keep.mk (HI.out.two h5 h2)
            by_cases hs : N * 5 < 18446744073709551616
            · have hm : mhi (N : Int) 5 = 0 ∧ mlo (N : Int) 5 = ((N * 5 : Nat) : Int) := mh_small (c := 5) hs
              obtain ⟨hm1, hm2⟩ := hm
              go_wp2_with fail
              refine (mul64 N 5 (by omega) (by omega) (by omega) (by omega) _).mono ?_
              rw [hm1, hm2]
              rintro r wm ⟨rfl, hbm⟩
              have hbm := up hbw hbm
              go_wp2
              go_roundw
              case rel =>
                have hk2 := k_small HI2.out.1 HD64.out
                have hf2 := HF.out
                exact ⟨N * 5, D / 2, k + 1, f - 1, hs, by omega, hk2, by omega, by omega, ⟨HI2.out.1⟩, ⟨by omega⟩, by go_num, by go_num, by go_num, hbm⟩
              case measure => simp [intOf]; omega
            · have HE := Keep.mk ((HR.out P f0).trans (divR_over HI2.out.1 hn0 (by omega) HI2.out.2 P f0))
              have hm := mh_big (c := 5) hs
              go_wp2_with fail
              refine (mul64 N 5 (by omega) (by omega) (by omega) (by omega) _).mono ?_
              have hm : 0 < mhi (N : Int) 5 := hm
              generalize mhi (N : Int) 5 = H at *
              generalize mlo (N : Int) 5 = L at *
              rintro r wm ⟨rfl, hbm⟩
              have hbm := up hbw hbm
              clear hc hf
              obtain ⟨hc, hf⟩ := bcell hbm
              go_wp2_with fail
              refine (num_zero _).mono ?_
              rintro r w11 ⟨rfl, hb11'⟩
              have hb11 := up hbm hb11'
              clear hc hf
              obtain ⟨hc, hf⟩ := bcell hb11
              go_wp2
              refine bodyPost_ret (v := numRes ((0, 0), 11)) ?_ rfl ⟨num_res (by rw [hP, hf0]; exact HE.out.symm), ?_⟩
              · simp [numRes, results, Tryd.results35, go_sem, hc]
              · exact st1 (st1 (up (al3 _ _ _ _) hb11) _ _ _ (by omega)) _ _ _ (by omega)
          · have HE := Keep.mk ((HR.out P f0).trans (divR_none HI.out HC.out (by omega) h2 h5 P f0))
            go_wp2_with fail
            refine (num_zero _).mono ?_
            rintro r w11 ⟨rfl, hb11'⟩
            have hb11 := up hbw hb11'
            clear hc hf
            obtain ⟨hc, hf⟩ := bcell hb11
            go_wp2
            refine bodyPost_ret (v := numRes ((0, 0), 11)) ?_ rfl ⟨num_res (by rw [hP, hf0]; exact HE.out.symm), ?_⟩
            · simp [numRes, results, Tryd.results35, go_sem, hc]
            · exact st1 (st1 (up (al3 _ _ _ _) hb11) _ _ _ (by omega)) _ _ _ (by omega)

theorem num_Div (m1 e1 m2 e2 : Int) (hm1 : I64 m1) (hm2 : I64 m2) (w : World) (hg : Glob w) : Calls Tryd.prog 35 #[.agg #[.int .i64 m1, .int .i64 e1], .agg #[.int .i64 m2, .int .i64 e2]] w fun r w' =>
    r = .returned (numRes (divN m1 e1 m2 e2)) ∧ Below w.heap.size w w' := by
  unfold divN
  by_cases hw : wrongS m1 e1 m2 e2 = 0
  · rw [if_neg (by simpa using hw)]
    obtain ⟨h1, h2, h3⟩ := right_of_wrongS hw
    by_cases hm : m1 = 0
    · have hz : (m1 == 0 && e1 == 0) = true := by rw [zero_of_right h1]; simpa using hm
      subst hm
      rw [show (0 : Int).natAbs = 0 by rfl, divR_zero]
      exact div_zero 0 e1 m2 e2 hm1 hm2 hw hz w hg
    · have hz : (m1 == 0 && e1 == 0) = false := by rw [zero_of_right h1]; simpa using hm
      exact div_some m1 e1 m2 e2 hm1 hm2 hw hz h1 h2 _ _ _ rfl rfl rfl (by omega) (by omega) w hg
  · rw [if_pos (by simpa using hw)]
    exact div_wrong m1 e1 m2 e2 hm1 hm2 _ rfl (by simpa using hw) w hg
end Go.Proofs.YtljemfajjeoecaaDoor
