/- The references' sure, abs, whole and Rem. Conditions: the numbers are of int64 and int. -/
import Derived.Test.YtljemfajjeoecaaDoorRefSum
import Derived.Test.YtljemfajjeoecaaDoorRem
import Derived.Test.YtljemfajjeoecaaDoorLaw
namespace Go.Proofs.YtljemfajjeoecaaDoor
open Go Go.RowKit Go.Proofs Th
attribute [local go_sem] Above.cell Above.frozen

set_option maxRecDepth 100000 in
theorem sure_1 (m1 e1 m2 e2 : Int) (hm1 : I64 m1) (_hm2 : I64 m2) (h1 : right m1 e1 = false) (w : World) : Calls Tryd.prog 78 #[.agg #[.int .i64 m1, .int .i64 e1], .agg #[.int .i64 m2, .int .i64 e2]] w fun r w' => r = .returned (.int .i64 10) ∧ Below w.heap.size w w' := by
  go_enter Tryd.func78, Tryd.ntmps78
  go_wp2_with fail
  refine (ref_Right m1 e1 hm1 _).mono ?_
  rw [h1]
  rintro r W1 ⟨rfl, hb⟩
  have Hx := Keep.mk (((Box.new (w := w) (n := w.heap.size) [.int .i64 m1, .int .i64 e1] 23 (by first | rfl | simp)).alloc (.cells #[.int .i64 m2, .int .i64 e2] 23)).below hb (by simp only [World.size_alloc]; omega))
  have Hy := Keep.mk ((Box.new (w := (w.alloc (.cells #[.int .i64 m1, .int .i64 e1] 23))) (n := w.heap.size + 1) [.int .i64 m2, .int .i64 e2] 23 (by first | rfl | simp)).below hb (by simp only [World.size_alloc]; omega))
  have HB := Keep.mk (up (al2 w _ _) hb)
  have xc0 := Hx.out.cell 0 _ rfl
  have xf0 := Hx.out.froz 0
  have xc1 := Hx.out.cell 1 _ rfl
  have xf1 := Hx.out.froz 1
  have xl := Hx.out.lt
  have yc0 := Hy.out.cell 0 _ rfl
  have yf0 := Hy.out.froz 0
  have yc1 := Hy.out.cell 1 _ rfl
  have yf1 := Hy.out.froz 1
  have yl := Hy.out.lt
  go_wp2
  go_ret
  exact ⟨rfl, HB.out⟩
set_option maxRecDepth 100000 in
theorem sure_2 (m1 e1 m2 e2 : Int) (hm1 : I64 m1) (hm2 : I64 m2) (h1 : right m1 e1 = true) (h2 : right m2 e2 = false) (w : World) : Calls Tryd.prog 78 #[.agg #[.int .i64 m1, .int .i64 e1], .agg #[.int .i64 m2, .int .i64 e2]] w fun r w' => r = .returned (.int .i64 10) ∧ Below w.heap.size w w' := by
  go_enter Tryd.func78, Tryd.ntmps78
  go_wp2_with fail
  refine (ref_Right m1 e1 hm1 _).mono ?_
  rw [h1]
  rintro r W1 ⟨rfl, hb⟩
  have Hx := Keep.mk (((Box.new (w := w) (n := w.heap.size) [.int .i64 m1, .int .i64 e1] 23 (by first | rfl | simp)).alloc (.cells #[.int .i64 m2, .int .i64 e2] 23)).below hb (by simp only [World.size_alloc]; omega))
  have Hy := Keep.mk ((Box.new (w := (w.alloc (.cells #[.int .i64 m1, .int .i64 e1] 23))) (n := w.heap.size + 1) [.int .i64 m2, .int .i64 e2] 23 (by first | rfl | simp)).below hb (by simp only [World.size_alloc]; omega))
  have HB := Keep.mk (up (al2 w _ _) hb)
  have xc0 := Hx.out.cell 0 _ rfl
  have xf0 := Hx.out.froz 0
  have xc1 := Hx.out.cell 1 _ rfl
  have xf1 := Hx.out.froz 1
  have xl := Hx.out.lt
  have yc0 := Hy.out.cell 0 _ rfl
  have yf0 := Hy.out.froz 0
  have yc1 := Hy.out.cell 1 _ rfl
  have yf1 := Hy.out.froz 1
  have yl := Hy.out.lt
  go_wp2_with fail
  refine (ref_Right m2 e2 hm2 _).mono ?_
  rw [h2]
  rintro r W2 ⟨rfl, hb⟩
  clear xc0 xc1 xf0 xf1 xl yc0 yc1 yf0 yf1 yl
  replace Hx := Keep.mk (Hx.out.below hb Hx.out.lt)
  replace Hy := Keep.mk (Hy.out.below hb Hy.out.lt)
  replace HB := Keep.mk (up HB.out hb)
  have xc0 := Hx.out.cell 0 _ rfl
  have xf0 := Hx.out.froz 0
  have xc1 := Hx.out.cell 1 _ rfl
  have xf1 := Hx.out.froz 1
  have xl := Hx.out.lt
  have yc0 := Hy.out.cell 0 _ rfl
  have yf0 := Hy.out.froz 0
  have yc1 := Hy.out.cell 1 _ rfl
  have yf1 := Hy.out.froz 1
  have yl := Hy.out.lt
  go_wp2
  go_ret
  exact ⟨rfl, HB.out⟩
set_option maxRecDepth 100000 in
theorem sure_3 (m1 e1 m2 e2 : Int) (hm1 : I64 m1) (hm2 : I64 m2) (h1 : right m1 e1 = true) (h2 : right m2 e2 = true) (hz : (m2 == 0) = true) (w : World) : Calls Tryd.prog 78 #[.agg #[.int .i64 m1, .int .i64 e1], .agg #[.int .i64 m2, .int .i64 e2]] w fun r w' => r = .returned (.int .i64 12) ∧ Below w.heap.size w w' := by
  go_enter Tryd.func78, Tryd.ntmps78
  go_wp2_with fail
  refine (ref_Right m1 e1 hm1 _).mono ?_
  rw [h1]
  rintro r W1 ⟨rfl, hb⟩
  have Hx := Keep.mk (((Box.new (w := w) (n := w.heap.size) [.int .i64 m1, .int .i64 e1] 23 (by first | rfl | simp)).alloc (.cells #[.int .i64 m2, .int .i64 e2] 23)).below hb (by simp only [World.size_alloc]; omega))
  have Hy := Keep.mk ((Box.new (w := (w.alloc (.cells #[.int .i64 m1, .int .i64 e1] 23))) (n := w.heap.size + 1) [.int .i64 m2, .int .i64 e2] 23 (by first | rfl | simp)).below hb (by simp only [World.size_alloc]; omega))
  have HB := Keep.mk (up (al2 w _ _) hb)
  have xc0 := Hx.out.cell 0 _ rfl
  have xf0 := Hx.out.froz 0
  have xc1 := Hx.out.cell 1 _ rfl
  have xf1 := Hx.out.froz 1
  have xl := Hx.out.lt
  have yc0 := Hy.out.cell 0 _ rfl
  have yf0 := Hy.out.froz 0
  have yc1 := Hy.out.cell 1 _ rfl
  have yf1 := Hy.out.froz 1
  have yl := Hy.out.lt
  go_wp2_with fail
  refine (ref_Right m2 e2 hm2 _).mono ?_
  rw [h2]
  rintro r W2 ⟨rfl, hb⟩
  clear xc0 xc1 xf0 xf1 xl yc0 yc1 yf0 yf1 yl
  replace Hx := Keep.mk (Hx.out.below hb Hx.out.lt)
  replace Hy := Keep.mk (Hy.out.below hb Hy.out.lt)
  replace HB := Keep.mk (up HB.out hb)
  have xc0 := Hx.out.cell 0 _ rfl
  have xf0 := Hx.out.froz 0
  have xc1 := Hx.out.cell 1 _ rfl
  have xf1 := Hx.out.froz 1
  have xl := Hx.out.lt
  have yc0 := Hy.out.cell 0 _ rfl
  have yf0 := Hy.out.froz 0
  have yc1 := Hy.out.cell 1 _ rfl
  have yf1 := Hy.out.froz 1
  have yl := Hy.out.lt
  go_wp2
  go_ret
  exact ⟨rfl, HB.out⟩
set_option maxRecDepth 100000 in
theorem sure_4 (m1 e1 m2 e2 : Int) (hm1 : I64 m1) (hm2 : I64 m2) (h1 : right m1 e1 = true) (h2 : right m2 e2 = true) (hz : (m2 == 0) = false) (w : World) : Calls Tryd.prog 78 #[.agg #[.int .i64 m1, .int .i64 e1], .agg #[.int .i64 m2, .int .i64 e2]] w fun r w' => r = .returned (.int .i64 0) ∧ Below w.heap.size w w' := by
  go_enter Tryd.func78, Tryd.ntmps78
  go_wp2_with fail
  refine (ref_Right m1 e1 hm1 _).mono ?_
  rw [h1]
  rintro r W1 ⟨rfl, hb⟩
  have Hx := Keep.mk (((Box.new (w := w) (n := w.heap.size) [.int .i64 m1, .int .i64 e1] 23 (by first | rfl | simp)).alloc (.cells #[.int .i64 m2, .int .i64 e2] 23)).below hb (by simp only [World.size_alloc]; omega))
  have Hy := Keep.mk ((Box.new (w := (w.alloc (.cells #[.int .i64 m1, .int .i64 e1] 23))) (n := w.heap.size + 1) [.int .i64 m2, .int .i64 e2] 23 (by first | rfl | simp)).below hb (by simp only [World.size_alloc]; omega))
  have HB := Keep.mk (up (al2 w _ _) hb)
  have xc0 := Hx.out.cell 0 _ rfl
  have xf0 := Hx.out.froz 0
  have xc1 := Hx.out.cell 1 _ rfl
  have xf1 := Hx.out.froz 1
  have xl := Hx.out.lt
  have yc0 := Hy.out.cell 0 _ rfl
  have yf0 := Hy.out.froz 0
  have yc1 := Hy.out.cell 1 _ rfl
  have yf1 := Hy.out.froz 1
  have yl := Hy.out.lt
  go_wp2_with fail
  refine (ref_Right m2 e2 hm2 _).mono ?_
  rw [h2]
  rintro r W2 ⟨rfl, hb⟩
  clear xc0 xc1 xf0 xf1 xl yc0 yc1 yf0 yf1 yl
  replace Hx := Keep.mk (Hx.out.below hb Hx.out.lt)
  replace Hy := Keep.mk (Hy.out.below hb Hy.out.lt)
  replace HB := Keep.mk (up HB.out hb)
  have xc0 := Hx.out.cell 0 _ rfl
  have xf0 := Hx.out.froz 0
  have xc1 := Hx.out.cell 1 _ rfl
  have xf1 := Hx.out.froz 1
  have xl := Hx.out.lt
  have yc0 := Hy.out.cell 0 _ rfl
  have yf0 := Hy.out.froz 0
  have yc1 := Hy.out.cell 1 _ rfl
  have yf1 := Hy.out.froz 1
  have yl := Hy.out.lt
  go_wp2
  go_ret
  exact ⟨rfl, HB.out⟩
theorem ref_sure (m1 e1 m2 e2 : Int) (hm1 : I64 m1) (hm2 : I64 m2) (w : World) : Calls Tryd.prog 78 #[.agg #[.int .i64 m1, .int .i64 e1], .agg #[.int .i64 m2, .int .i64 e2]] w fun r w' => r = .returned (.int .i64 (wrongS m1 e1 m2 e2)) ∧ Below w.heap.size w w' := by
  unfold wrongS
  cases h1 : right m1 e1
  · exact sure_1 m1 e1 m2 e2 hm1 hm2 h1 w
  · cases h2 : right m2 e2
    · exact sure_2 m1 e1 m2 e2 hm1 hm2 h1 h2 w
    · by_cases hz : m2 = 0
      · have := sure_3 m1 e1 m2 e2 hm1 hm2 h1 h2 (by simpa using hz) w
        simpa [hz] using this
      · have := sure_4 m1 e1 m2 e2 hm1 hm2 h1 h2 (by simpa using hz) w
        simpa [hz] using this
theorem wrong_zero {m1 e1 m2 e2 : Int} (h : wrongS m1 e1 m2 e2 = 0) : right m1 e1 = true ∧ right m2 e2 = true ∧ m2 ≠ 0 := by
  unfold wrongS at h
  cases h1 : right m1 e1 <;> cases h2 : right m2 e2 <;> simp_all
theorem ref_abs (m : Int) (h0 : -1000000000000000000 ≤ m) (h1 : m ≤ 1000000000000000000) (w : World) : Calls Tryd.prog 79 #[.int .i64 m] w fun r w' => r = .returned (.int .u64 m.natAbs) ∧ Below w.heap.size w w' := by
  by_cases h : m < 0
  · have k : IntKind.u64.wrap (-m) = m.natAbs := by rw [IntKind.wrap_u64]; omega
    have K := Keep.mk k
    clear k
    go_enter Tryd.func79, Tryd.ntmps79
    go_wp2
    go_ret
    exact ⟨ret_u64 (by first | exact K.out | omega), Below.refl _ _⟩
  · have k : IntKind.u64.wrap m = m.natAbs := by rw [IntKind.wrap_u64]; omega
    have K := Keep.mk k
    clear k
    go_enter Tryd.func79, Tryd.ntmps79
    go_wp2
    go_ret
    exact ⟨ret_u64 (by first | exact K.out | omega), Below.refl _ _⟩
theorem nDigits_digs (n : Nat) (h : n ≠ 0) : (digs n).length = Lib.nDigits n := by
  induction n using Nat.strongRecOn with
  | _ n ih =>
    rw [digs_pos n h, List.length_append, List.length_singleton, Lib.nDigits]
    split
    · rename_i h10
      rw [show n / 10 = 0 by omega, digs_zero]; rfl
    · rename_i h10
      rw [ih (n / 10) (by omega) (by omega)]
theorem wOk_digs {m e : Int} (h : right m e = true) : wOk m e = (!(decide (e < 0)) && decide (((digs m.natAbs).length : Int) + e ≤ 18)) := by
  unfold wOk nd
  by_cases hm : m = 0
  · subst hm
    have : e = 0 := by simpa [right] using h
    subst this
    rw [show Int.natAbs 0 = 0 from rfl, digs_zero, Lib.nDigits]; rfl
  · rw [nDigits_digs _ (by omega)]
theorem whole_bd {m e : Int} (h : wOk m e = true) : 0 ≤ e ∧ wN m e < 1000000000000000000 := by
  unfold wOk at h
  simp only [Bool.and_eq_true, Bool.not_eq_true', decide_eq_false_iff_not, decide_eq_true_eq] at h
  refine ⟨by omega, ?_⟩
  unfold wN
  have h1 : m.natAbs < 10 ^ nd m := lt_pow_nd _
  have h2 : m.natAbs * 10 ^ e.toNat < 10 ^ nd m * 10 ^ e.toNat := Nat.mul_lt_mul_of_pos_right h1 (Nat.pow_pos (by omega))
  rw [← Nat.pow_add] at h2
  have h3 : (10 : Nat) ^ (nd m + e.toNat) ≤ 10 ^ 18 := Nat.pow_le_pow_right (by omega) (by omega)
  omega

set_option maxRecDepth 100000 in
set_option maxHeartbeats 1000000 in
theorem rwhole_no1 (m e : Int) (hm : I64 m) (h : right m e = true) (he : e < 0) (w : World) : Calls Tryd.prog 81 #[.agg #[.int .i64 m, .int .i64 e]] w fun r w' => r = .returned (.tuple #[.int .i64 0, .bool false]) ∧ Below w.heap.size w w' := by
  have HE := right_exp h
  have HN := digs_len m.natAbs (by have := hm.lo; have := hm.hi; omega)
  go_enter Tryd.func81, Tryd.ntmps81
  go_wp2_with fail
  refine (long_at m e hm _).mono ?_
  rintro r W1 ⟨A1, c1, rfl, hI1, hb⟩
  have Hx := Keep.mk ((Box.new (w := w) (n := w.heap.size) [.int .i64 m, .int .i64 e] 23 (by first | rfl | simp)).below hb (by simp only [World.size_alloc]; omega))
  have HB := Keep.mk (up (al1 w _) hb)
  have xc0 := Hx.out.cell 0 _ rfl
  have xf0 := Hx.out.froz 0
  have xc1 := Hx.out.cell 1 _ rfl
  have xf1 := Hx.out.froz 1
  have xl := Hx.out.lt
  go_upto_region 2 with fail
  have xlW1 := Hx.out.lt
  refine wp_world (fun W => Box W (w.heap.size) [.int .i64 m, .int .i64 e] ∧ Box W (W1.heap.size) [.bool (decide (m < 0)), .slice A1 (digs m.natAbs).length c1, .int .i64 e] ∧ Below w.heap.size w W) ⟨Hx.out.alloc _, Box.new [.bool (decide (m < 0)), .slice A1 (digs m.natAbs).length c1, .int .i64 e] _ rfl, up HB.out (al1 _ _)⟩ ?_
  clear xc0 xc1 xf0 xf1 xl
  clear Hx HB
  rintro W2 ⟨Hx, Hp, HB⟩
  replace Hx := Keep.mk Hx
  replace Hp := Keep.mk Hp
  replace HB := Keep.mk HB
  have xc0 := Hx.out.cell 0 _ rfl
  have xf0 := Hx.out.froz 0
  have xc1 := Hx.out.cell 1 _ rfl
  have xf1 := Hx.out.froz 1
  have xl := Hx.out.lt
  have pc0 := Hp.out.cell 0 _ rfl
  have pf0 := Hp.out.froz 0
  have pc1 := Hp.out.cell 1 _ rfl
  have pf1 := Hp.out.froz 1
  have pc2 := Hp.out.cell 2 _ rfl
  have pf2 := Hp.out.froz 2
  have pl := Hp.out.lt
  go_wp2
  go_ret2
  exact ⟨rfl, HB.out⟩
set_option maxRecDepth 100000 in
set_option maxHeartbeats 1000000 in
theorem rwhole_no2 (m e : Int) (hm : I64 m) (h : right m e = true) (he : 0 ≤ e) (hl : 18 < ((digs m.natAbs).length : Int) + e) (w : World) : Calls Tryd.prog 81 #[.agg #[.int .i64 m, .int .i64 e]] w fun r w' => r = .returned (.tuple #[.int .i64 0, .bool false]) ∧ Below w.heap.size w w' := by
  have HE := right_exp h
  have HN := digs_len m.natAbs (by have := hm.lo; have := hm.hi; omega)
  go_enter Tryd.func81, Tryd.ntmps81
  go_wp2_with fail
  refine (long_at m e hm _).mono ?_
  rintro r W1 ⟨A1, c1, rfl, hI1, hb⟩
  have Hx := Keep.mk ((Box.new (w := w) (n := w.heap.size) [.int .i64 m, .int .i64 e] 23 (by first | rfl | simp)).below hb (by simp only [World.size_alloc]; omega))
  have HB := Keep.mk (up (al1 w _) hb)
  have xc0 := Hx.out.cell 0 _ rfl
  have xf0 := Hx.out.froz 0
  have xc1 := Hx.out.cell 1 _ rfl
  have xf1 := Hx.out.froz 1
  have xl := Hx.out.lt
  go_upto_region 2 with fail
  have xlW1 := Hx.out.lt
  refine wp_world (fun W => Box W (w.heap.size) [.int .i64 m, .int .i64 e] ∧ Box W (W1.heap.size) [.bool (decide (m < 0)), .slice A1 (digs m.natAbs).length c1, .int .i64 e] ∧ Below w.heap.size w W) ⟨Hx.out.alloc _, Box.new [.bool (decide (m < 0)), .slice A1 (digs m.natAbs).length c1, .int .i64 e] _ rfl, up HB.out (al1 _ _)⟩ ?_
  clear xc0 xc1 xf0 xf1 xl
  clear Hx HB
  rintro W2 ⟨Hx, Hp, HB⟩
  replace Hx := Keep.mk Hx
  replace Hp := Keep.mk Hp
  replace HB := Keep.mk HB
  have xc0 := Hx.out.cell 0 _ rfl
  have xf0 := Hx.out.froz 0
  have xc1 := Hx.out.cell 1 _ rfl
  have xf1 := Hx.out.froz 1
  have xl := Hx.out.lt
  have pc0 := Hp.out.cell 0 _ rfl
  have pf0 := Hp.out.froz 0
  have pc1 := Hp.out.cell 1 _ rfl
  have pf1 := Hp.out.froz 1
  have pc2 := Hp.out.cell 2 _ rfl
  have pf2 := Hp.out.froz 2
  have pl := Hp.out.lt
  generalize (digs m.natAbs).length = N at *
  go_wp2
  go_ret2
  exact ⟨rfl, HB.out⟩
set_option maxRecDepth 100000 in
set_option maxHeartbeats 1000000 in
theorem rwhole_yes (m e : Int) (hm : I64 m) (h : right m e = true) (hw : wOk m e = true) (hl : ((digs m.natAbs).length : Int) + e ≤ 18) (w : World) : Calls Tryd.prog 81 #[.agg #[.int .i64 m, .int .i64 e]] w fun r w' => r = .returned (.tuple #[.int .i64 (m * (10 ^ e.toNat : Nat)), .bool true]) ∧ Below w.heap.size w w' := by
  have HE := right_exp h
  have HN := digs_len m.natAbs (by have := hm.lo; have := hm.hi; omega)
  have HWB := whole_bd hw
  obtain ⟨n, rfl⟩ := Int.eq_ofNat_of_zero_le HWB.1
  have HW := Keep.mk HWB
  clear HWB hw
  have HM : Keep (∀ k : Nat, k ≤ n → -1000000000000000000 ≤ m * (10 ^ k : Nat) ∧ m * (10 ^ k : Nat) ≤ 1000000000000000000) := ⟨fun k hk => by
    have h1 := HW.out.2
    unfold wN at h1
    have h2 : m.natAbs * 10 ^ k ≤ m.natAbs * 10 ^ (n : Int).toNat := Nat.mul_le_mul_left _ (Nat.pow_le_pow_right (by omega) (by omega))
    have h3 : (m * (10 ^ k : Nat)).natAbs = m.natAbs * 10 ^ k := by rw [Int.natAbs_mul]; rfl
    omega⟩
  go_enter Tryd.func81, Tryd.ntmps81
  go_wp2_with fail
  refine (long_at m (n : Int) hm _).mono ?_
  rintro r W1 ⟨A1, c1, rfl, hI1, hb⟩
  have Hx := Keep.mk ((Box.new (w := w) (n := w.heap.size) [.int .i64 m, .int .i64 (n : Int)] 23 (by first | rfl | simp)).below hb (by simp only [World.size_alloc]; omega))
  have HB := Keep.mk (up (al1 w _) hb)
  have xc0 := Hx.out.cell 0 _ rfl
  have xf0 := Hx.out.froz 0
  have xc1 := Hx.out.cell 1 _ rfl
  have xf1 := Hx.out.froz 1
  have xl := Hx.out.lt
  go_upto_region 2 with fail
  have xlW1 := Hx.out.lt
  refine wp_world (fun W => Box W (w.heap.size) [.int .i64 m, .int .i64 (n : Int)] ∧ Box W (W1.heap.size) [.bool (decide (m < 0)), .slice A1 (digs m.natAbs).length c1, .int .i64 (n : Int)] ∧ Below w.heap.size w W) ⟨Hx.out.alloc _, Box.new [.bool (decide (m < 0)), .slice A1 (digs m.natAbs).length c1, .int .i64 (n : Int)] _ rfl, up HB.out (al1 _ _)⟩ ?_
  clear xc0 xc1 xf0 xf1 xl
  clear Hx HB
  rintro W2 ⟨Hx, Hp, HB⟩
  replace Hx := Keep.mk Hx
  replace Hp := Keep.mk Hp
  replace HB := Keep.mk HB
  have xc0 := Hx.out.cell 0 _ rfl
  have xf0 := Hx.out.froz 0
  have xc1 := Hx.out.cell 1 _ rfl
  have xf1 := Hx.out.froz 1
  have xl := Hx.out.lt
  have pc0 := Hp.out.cell 0 _ rfl
  have pf0 := Hp.out.froz 0
  have pc1 := Hp.out.cell 1 _ rfl
  have pf1 := Hp.out.froz 1
  have pc2 := Hp.out.cell 2 _ rfl
  have pf2 := Hp.out.froz 2
  have pl := Hp.out.lt
  generalize (digs m.natAbs).length = N at *
  go_wp2_with fail
  go_loopg [5, 6] n (fun gk v i wr => ∃ k : Nat, k + gk = n ∧ v = .int .i64 (m * (10 ^ k : Nat)) ∧ i = .int .i64 (k : Int) ∧ wr = W2)
  case atStart => exact ⟨0, by omega, by simp, rfl, rfl⟩
  case round =>
    obtain ⟨k, hk, rfl, rfl, rfl⟩ := hrel
    by_cases hlt : k < n
    · have hb1 := HM.out (k + 1) (by omega)
      have HP := Keep.mk (show m * ((10 ^ (k + 1) : Nat) : Int) = m * ((10 ^ k : Nat) : Int) * 10 by rw [Nat.pow_succ, Int.natCast_mul, ← Int.mul_assoc]; rfl)
      rw [HP.out] at hb1
      obtain ⟨hb1, hb2⟩ := hb1
      have hgk : gk ≠ 0 := by omega
      generalize m * ((10 ^ k : Nat) : Int) = z at *
      go_wp2
      go_roundg (gk - 1)
      case rel => exact ⟨k + 1, by omega, by rw [HP.out], by go_num, rfl⟩
      case measure => omega
    · have hke : k = n := by omega
      subst hke
      generalize hz : m * ((10 ^ k : Nat) : Int) = z at *
      have HZ := Keep.mk hz
      clear hz
      go_wp2
      go_ret2
      exact ⟨by rw [Int.toNat_natCast, HZ.out]; rfl, HB.out⟩
theorem ref_whole (m e : Int) (hm : I64 m) (h : right m e = true) (w : World) : Calls Tryd.prog 81 #[.agg #[.int .i64 m, .int .i64 e]] w fun r w' => r = .returned (.tuple #[.int .i64 (if wOk m e then m * (10 ^ e.toNat : Nat) else 0), .bool (wOk m e)]) ∧ Below w.heap.size w w' := by
  have hd := wOk_digs h
  by_cases he : e < 0
  · have hf : wOk m e = false := by rw [hd]; simp [he]
    rw [hf]; exact rwhole_no1 m e hm h he w
  · by_cases hl : 18 < ((digs m.natAbs).length : Int) + e
    · have hf : wOk m e = false := by rw [hd]; simp; omega
      rw [hf]; exact rwhole_no2 m e hm h (by omega) hl w
    · have hf : wOk m e = true := by rw [hd]; simp; omega
      have := rwhole_yes m e hm h hf (by omega) w
      rw [hf]; exact this

theorem rem_norm {m1 e1 m2 e2 : Int} (_h2 : m2 ≠ 0) : norm (decide ((m1 * (10 ^ e1.toNat : Nat)).tmod (m2 * (10 ^ e2.toNat : Nat)) < 0)) ((m1 * (10 ^ e1.toNat : Nat)).tmod (m2 * (10 ^ e2.toNat : Nat))).natAbs 0 = norm (decide (m1 < 0)) (wN m1 e1 % wN m2 e2) 0 := by
  have p1 : 0 < 10 ^ e1.toNat := Nat.pow_pos (by omega)
  have e : ((m1 * (10 ^ e1.toNat : Nat)).tmod (m2 * (10 ^ e2.toNat : Nat))).natAbs = wN m1 e1 % wN m2 e2 := by
    rw [Int.natAbs_tmod, Int.natAbs_mul, Int.natAbs_mul]; rfl
  rw [e]
  by_cases hz : wN m1 e1 % wN m2 e2 = 0
  · rw [hz]; rfl
  · congr 1
    rw [decide_eq_decide]
    generalize hx : m1 * ((10 ^ e1.toNat : Nat) : Int) = X at *
    generalize m2 * ((10 ^ e2.toNat : Nat) : Int) = Y at *
    constructor
    · intro h
      by_cases hm : m1 < 0
      · exact hm
      · have : 0 ≤ X := by rw [← hx]; exact Int.mul_nonneg (by omega) (by omega)
        have := Int.tmod_nonneg Y this
        omega
    · intro h
      have : X ≤ 0 := by rw [← hx]; exact Int.le_of_lt (Int.mul_neg_of_neg_of_pos h (by omega))
      have h3 := Int.tmod_nonneg Y (show 0 ≤ -X by omega)
      rw [Int.neg_tmod] at h3
      omega

set_option maxRecDepth 100000 in
set_option maxHeartbeats 1000000 in
theorem rrem_bad (m1 e1 m2 e2 : Int) (hm1 : I64 m1) (hm2 : I64 m2) (c : Int) (hw : wrongS m1 e1 m2 e2 = c) (hc : (c != 0) = true) (w : World) : Calls Tryd.prog 41 #[.agg #[.int .i64 m1, .int .i64 e1], .agg #[.int .i64 m2, .int .i64 e2]] w fun r w' => r = .returned (numRes ((0, 0), c)) ∧ Below w.heap.size w w' := by
  have HW := Keep.mk hw
  clear hw
  go_enter Tryd.func41, Tryd.ntmps41
  go_wp2_with fail
  refine (ref_sure m1 e1 m2 e2 hm1 hm2 _).mono ?_
  rw [HW.out]
  rintro r W1 ⟨rfl, hb⟩
  have Hx := Keep.mk ((((Box.new (w := w) (n := w.heap.size) [.int .i64 m1, .int .i64 e1] 23 (by first | rfl | simp)).alloc (.cells #[.int .i64 m2, .int .i64 e2] 23)).alloc (.cells #[.int .i64 0, .int .i64 0] 23)).below hb (by simp only [World.size_alloc]; omega))
  have Hy := Keep.mk (((Box.new (w := (w.alloc (.cells #[.int .i64 m1, .int .i64 e1] 23))) (n := w.heap.size + 1) [.int .i64 m2, .int .i64 e2] 23 (by first | rfl | simp)).alloc (.cells #[.int .i64 0, .int .i64 0] 23)).below hb (by simp only [World.size_alloc]; omega))
  have Hr := Keep.mk ((Box.new (w := ((w.alloc (.cells #[.int .i64 m1, .int .i64 e1] 23)).alloc (.cells #[.int .i64 m2, .int .i64 e2] 23))) (n := w.heap.size + 2) [.int .i64 0, .int .i64 0] 23 (by first | rfl | simp)).below hb (by simp only [World.size_alloc]; omega))
  have HB := Keep.mk (up (al3 w _ _ _) hb)
  have xc0 := Hx.out.cell 0 _ rfl
  have xf0 := Hx.out.froz 0
  have xc1 := Hx.out.cell 1 _ rfl
  have xf1 := Hx.out.froz 1
  have xl := Hx.out.lt
  have yc0 := Hy.out.cell 0 _ rfl
  have yf0 := Hy.out.froz 0
  have yc1 := Hy.out.cell 1 _ rfl
  have yf1 := Hy.out.froz 1
  have yl := Hy.out.lt
  have rc0 := Hr.out.cell 0 _ rfl
  have rf0 := Hr.out.froz 0
  have rc1 := Hr.out.cell 1 _ rfl
  have rf1 := Hr.out.froz 1
  have rl := Hr.out.lt
  go_wp2
  refine bodyPost_ret (v := numRes ((0, 0), c)) ?_ rfl ⟨rfl, st1 (st1 HB.out _ _ _ (by omega)) _ _ _ (by omega)⟩
  simp [numRes, results, Tryd.results41, go_sem, rc0, rc1]
set_option maxRecDepth 100000 in
set_option maxHeartbeats 1000000 in
theorem rrem_no1 (m1 e1 m2 e2 : Int) (hm1 : I64 m1) (hm2 : I64 m2) (hw : wrongS m1 e1 m2 e2 = 0) (h1 : right m1 e1 = true) (h2 : right m2 e2 = true) (k1 : wOk m1 e1 = false) (k2 : wOk m2 e2 = false) (w : World) : Calls Tryd.prog 41 #[.agg #[.int .i64 m1, .int .i64 e1], .agg #[.int .i64 m2, .int .i64 e2]] w fun r w' => r = .returned (numRes ((0, 0), 11)) ∧ Below w.heap.size w w' := by
  have HW := Keep.mk hw
  clear hw
  go_enter Tryd.func41, Tryd.ntmps41
  go_wp2_with fail
  refine (ref_sure m1 e1 m2 e2 hm1 hm2 _).mono ?_
  rw [HW.out]
  rintro r W1 ⟨rfl, hb⟩
  have Hx := Keep.mk ((((Box.new (w := w) (n := w.heap.size) [.int .i64 m1, .int .i64 e1] 23 (by first | rfl | simp)).alloc (.cells #[.int .i64 m2, .int .i64 e2] 23)).alloc (.cells #[.int .i64 0, .int .i64 0] 23)).below hb (by simp only [World.size_alloc]; omega))
  have Hy := Keep.mk (((Box.new (w := (w.alloc (.cells #[.int .i64 m1, .int .i64 e1] 23))) (n := w.heap.size + 1) [.int .i64 m2, .int .i64 e2] 23 (by first | rfl | simp)).alloc (.cells #[.int .i64 0, .int .i64 0] 23)).below hb (by simp only [World.size_alloc]; omega))
  have Hr := Keep.mk ((Box.new (w := ((w.alloc (.cells #[.int .i64 m1, .int .i64 e1] 23)).alloc (.cells #[.int .i64 m2, .int .i64 e2] 23))) (n := w.heap.size + 2) [.int .i64 0, .int .i64 0] 23 (by first | rfl | simp)).below hb (by simp only [World.size_alloc]; omega))
  have HB := Keep.mk (up (al3 w _ _ _) hb)
  have xc0 := Hx.out.cell 0 _ rfl
  have xf0 := Hx.out.froz 0
  have xc1 := Hx.out.cell 1 _ rfl
  have xf1 := Hx.out.froz 1
  have xl := Hx.out.lt
  have yc0 := Hy.out.cell 0 _ rfl
  have yf0 := Hy.out.froz 0
  have yc1 := Hy.out.cell 1 _ rfl
  have yf1 := Hy.out.froz 1
  have yl := Hy.out.lt
  have rc0 := Hr.out.cell 0 _ rfl
  have rf0 := Hr.out.froz 0
  have rc1 := Hr.out.cell 1 _ rfl
  have rf1 := Hr.out.froz 1
  have rl := Hr.out.lt
  go_wp2_with fail
  refine (ref_whole m1 e1 hm1 h1 _).mono ?_
  rw [k1]
  rintro r W2 ⟨rfl, hb⟩
  clear xc0 xc1 xf0 xf1 xl yc0 yc1 yf0 yf1 yl rc0 rc1 rf0 rf1 rl
  replace Hx := Keep.mk (Hx.out.below hb Hx.out.lt)
  replace Hy := Keep.mk (Hy.out.below hb Hy.out.lt)
  replace Hr := Keep.mk (Hr.out.below hb Hr.out.lt)
  replace HB := Keep.mk (up HB.out hb)
  have xc0 := Hx.out.cell 0 _ rfl
  have xf0 := Hx.out.froz 0
  have xc1 := Hx.out.cell 1 _ rfl
  have xf1 := Hx.out.froz 1
  have xl := Hx.out.lt
  have yc0 := Hy.out.cell 0 _ rfl
  have yf0 := Hy.out.froz 0
  have yc1 := Hy.out.cell 1 _ rfl
  have yf1 := Hy.out.froz 1
  have yl := Hy.out.lt
  have rc0 := Hr.out.cell 0 _ rfl
  have rf0 := Hr.out.froz 0
  have rc1 := Hr.out.cell 1 _ rfl
  have rf1 := Hr.out.froz 1
  have rl := Hr.out.lt
  go_wp2_with fail
  refine (ref_whole m2 e2 hm2 h2 _).mono ?_
  rw [k2]
  rintro r W3 ⟨rfl, hb⟩
  clear xc0 xc1 xf0 xf1 xl yc0 yc1 yf0 yf1 yl rc0 rc1 rf0 rf1 rl
  replace Hx := Keep.mk (Hx.out.below hb Hx.out.lt)
  replace Hy := Keep.mk (Hy.out.below hb Hy.out.lt)
  replace Hr := Keep.mk (Hr.out.below hb Hr.out.lt)
  replace HB := Keep.mk (up HB.out hb)
  have xc0 := Hx.out.cell 0 _ rfl
  have xf0 := Hx.out.froz 0
  have xc1 := Hx.out.cell 1 _ rfl
  have xf1 := Hx.out.froz 1
  have xl := Hx.out.lt
  have yc0 := Hy.out.cell 0 _ rfl
  have yf0 := Hy.out.froz 0
  have yc1 := Hy.out.cell 1 _ rfl
  have yf1 := Hy.out.froz 1
  have yl := Hy.out.lt
  have rc0 := Hr.out.cell 0 _ rfl
  have rf0 := Hr.out.froz 0
  have rc1 := Hr.out.cell 1 _ rfl
  have rf1 := Hr.out.froz 1
  have rl := Hr.out.lt
  go_wp2
  refine bodyPost_ret (v := numRes ((0, 0), 11)) ?_ rfl ⟨rfl, st1 (st1 HB.out _ _ _ (by omega)) _ _ _ (by omega)⟩
  simp [numRes, results, Tryd.results41, go_sem, rc0, rc1]
set_option maxRecDepth 100000 in
set_option maxHeartbeats 1000000 in
theorem rrem_no3 (m1 e1 m2 e2 : Int) (hm1 : I64 m1) (hm2 : I64 m2) (hw : wrongS m1 e1 m2 e2 = 0) (h1 : right m1 e1 = true) (h2 : right m2 e2 = true) (k1 : wOk m1 e1 = false) (k2 : wOk m2 e2 = true) (w : World) : Calls Tryd.prog 41 #[.agg #[.int .i64 m1, .int .i64 e1], .agg #[.int .i64 m2, .int .i64 e2]] w fun r w' => r = .returned (numRes ((0, 0), 11)) ∧ Below w.heap.size w w' := by
  have HW := Keep.mk hw
  clear hw
  go_enter Tryd.func41, Tryd.ntmps41
  go_wp2_with fail
  refine (ref_sure m1 e1 m2 e2 hm1 hm2 _).mono ?_
  rw [HW.out]
  rintro r W1 ⟨rfl, hb⟩
  have Hx := Keep.mk ((((Box.new (w := w) (n := w.heap.size) [.int .i64 m1, .int .i64 e1] 23 (by first | rfl | simp)).alloc (.cells #[.int .i64 m2, .int .i64 e2] 23)).alloc (.cells #[.int .i64 0, .int .i64 0] 23)).below hb (by simp only [World.size_alloc]; omega))
  have Hy := Keep.mk (((Box.new (w := (w.alloc (.cells #[.int .i64 m1, .int .i64 e1] 23))) (n := w.heap.size + 1) [.int .i64 m2, .int .i64 e2] 23 (by first | rfl | simp)).alloc (.cells #[.int .i64 0, .int .i64 0] 23)).below hb (by simp only [World.size_alloc]; omega))
  have Hr := Keep.mk ((Box.new (w := ((w.alloc (.cells #[.int .i64 m1, .int .i64 e1] 23)).alloc (.cells #[.int .i64 m2, .int .i64 e2] 23))) (n := w.heap.size + 2) [.int .i64 0, .int .i64 0] 23 (by first | rfl | simp)).below hb (by simp only [World.size_alloc]; omega))
  have HB := Keep.mk (up (al3 w _ _ _) hb)
  have xc0 := Hx.out.cell 0 _ rfl
  have xf0 := Hx.out.froz 0
  have xc1 := Hx.out.cell 1 _ rfl
  have xf1 := Hx.out.froz 1
  have xl := Hx.out.lt
  have yc0 := Hy.out.cell 0 _ rfl
  have yf0 := Hy.out.froz 0
  have yc1 := Hy.out.cell 1 _ rfl
  have yf1 := Hy.out.froz 1
  have yl := Hy.out.lt
  have rc0 := Hr.out.cell 0 _ rfl
  have rf0 := Hr.out.froz 0
  have rc1 := Hr.out.cell 1 _ rfl
  have rf1 := Hr.out.froz 1
  have rl := Hr.out.lt
  go_wp2_with fail
  refine (ref_whole m1 e1 hm1 h1 _).mono ?_
  rw [k1]
  rintro r W2 ⟨rfl, hb⟩
  clear xc0 xc1 xf0 xf1 xl yc0 yc1 yf0 yf1 yl rc0 rc1 rf0 rf1 rl
  replace Hx := Keep.mk (Hx.out.below hb Hx.out.lt)
  replace Hy := Keep.mk (Hy.out.below hb Hy.out.lt)
  replace Hr := Keep.mk (Hr.out.below hb Hr.out.lt)
  replace HB := Keep.mk (up HB.out hb)
  have xc0 := Hx.out.cell 0 _ rfl
  have xf0 := Hx.out.froz 0
  have xc1 := Hx.out.cell 1 _ rfl
  have xf1 := Hx.out.froz 1
  have xl := Hx.out.lt
  have yc0 := Hy.out.cell 0 _ rfl
  have yf0 := Hy.out.froz 0
  have yc1 := Hy.out.cell 1 _ rfl
  have yf1 := Hy.out.froz 1
  have yl := Hy.out.lt
  have rc0 := Hr.out.cell 0 _ rfl
  have rf0 := Hr.out.froz 0
  have rc1 := Hr.out.cell 1 _ rfl
  have rf1 := Hr.out.froz 1
  have rl := Hr.out.lt
  go_wp2_with fail
  refine (ref_whole m2 e2 hm2 h2 _).mono ?_
  rw [k2]
  rintro r W3 ⟨rfl, hb⟩
  clear xc0 xc1 xf0 xf1 xl yc0 yc1 yf0 yf1 yl rc0 rc1 rf0 rf1 rl
  replace Hx := Keep.mk (Hx.out.below hb Hx.out.lt)
  replace Hy := Keep.mk (Hy.out.below hb Hy.out.lt)
  replace Hr := Keep.mk (Hr.out.below hb Hr.out.lt)
  replace HB := Keep.mk (up HB.out hb)
  have xc0 := Hx.out.cell 0 _ rfl
  have xf0 := Hx.out.froz 0
  have xc1 := Hx.out.cell 1 _ rfl
  have xf1 := Hx.out.froz 1
  have xl := Hx.out.lt
  have yc0 := Hy.out.cell 0 _ rfl
  have yf0 := Hy.out.froz 0
  have yc1 := Hy.out.cell 1 _ rfl
  have yf1 := Hy.out.froz 1
  have yl := Hy.out.lt
  have rc0 := Hr.out.cell 0 _ rfl
  have rf0 := Hr.out.froz 0
  have rc1 := Hr.out.cell 1 _ rfl
  have rf1 := Hr.out.froz 1
  have rl := Hr.out.lt
  go_wp2
  refine bodyPost_ret (v := numRes ((0, 0), 11)) ?_ rfl ⟨rfl, st1 (st1 HB.out _ _ _ (by omega)) _ _ _ (by omega)⟩
  simp [numRes, results, Tryd.results41, go_sem, rc0, rc1]
set_option maxRecDepth 100000 in
set_option maxHeartbeats 1000000 in
theorem rrem_no2 (m1 e1 m2 e2 : Int) (hm1 : I64 m1) (hm2 : I64 m2) (hw : wrongS m1 e1 m2 e2 = 0) (h1 : right m1 e1 = true) (h2 : right m2 e2 = true) (k1 : wOk m1 e1 = true) (k2 : wOk m2 e2 = false) (w : World) : Calls Tryd.prog 41 #[.agg #[.int .i64 m1, .int .i64 e1], .agg #[.int .i64 m2, .int .i64 e2]] w fun r w' => r = .returned (numRes ((0, 0), 11)) ∧ Below w.heap.size w w' := by
  have HW := Keep.mk hw
  clear hw
  go_enter Tryd.func41, Tryd.ntmps41
  go_wp2_with fail
  refine (ref_sure m1 e1 m2 e2 hm1 hm2 _).mono ?_
  rw [HW.out]
  rintro r W1 ⟨rfl, hb⟩
  have Hx := Keep.mk ((((Box.new (w := w) (n := w.heap.size) [.int .i64 m1, .int .i64 e1] 23 (by first | rfl | simp)).alloc (.cells #[.int .i64 m2, .int .i64 e2] 23)).alloc (.cells #[.int .i64 0, .int .i64 0] 23)).below hb (by simp only [World.size_alloc]; omega))
  have Hy := Keep.mk (((Box.new (w := (w.alloc (.cells #[.int .i64 m1, .int .i64 e1] 23))) (n := w.heap.size + 1) [.int .i64 m2, .int .i64 e2] 23 (by first | rfl | simp)).alloc (.cells #[.int .i64 0, .int .i64 0] 23)).below hb (by simp only [World.size_alloc]; omega))
  have Hr := Keep.mk ((Box.new (w := ((w.alloc (.cells #[.int .i64 m1, .int .i64 e1] 23)).alloc (.cells #[.int .i64 m2, .int .i64 e2] 23))) (n := w.heap.size + 2) [.int .i64 0, .int .i64 0] 23 (by first | rfl | simp)).below hb (by simp only [World.size_alloc]; omega))
  have HB := Keep.mk (up (al3 w _ _ _) hb)
  have xc0 := Hx.out.cell 0 _ rfl
  have xf0 := Hx.out.froz 0
  have xc1 := Hx.out.cell 1 _ rfl
  have xf1 := Hx.out.froz 1
  have xl := Hx.out.lt
  have yc0 := Hy.out.cell 0 _ rfl
  have yf0 := Hy.out.froz 0
  have yc1 := Hy.out.cell 1 _ rfl
  have yf1 := Hy.out.froz 1
  have yl := Hy.out.lt
  have rc0 := Hr.out.cell 0 _ rfl
  have rf0 := Hr.out.froz 0
  have rc1 := Hr.out.cell 1 _ rfl
  have rf1 := Hr.out.froz 1
  have rl := Hr.out.lt
  go_wp2_with fail
  refine (ref_whole m1 e1 hm1 h1 _).mono ?_
  rw [k1]
  rintro r W2 ⟨rfl, hb⟩
  clear xc0 xc1 xf0 xf1 xl yc0 yc1 yf0 yf1 yl rc0 rc1 rf0 rf1 rl
  replace Hx := Keep.mk (Hx.out.below hb Hx.out.lt)
  replace Hy := Keep.mk (Hy.out.below hb Hy.out.lt)
  replace Hr := Keep.mk (Hr.out.below hb Hr.out.lt)
  replace HB := Keep.mk (up HB.out hb)
  have xc0 := Hx.out.cell 0 _ rfl
  have xf0 := Hx.out.froz 0
  have xc1 := Hx.out.cell 1 _ rfl
  have xf1 := Hx.out.froz 1
  have xl := Hx.out.lt
  have yc0 := Hy.out.cell 0 _ rfl
  have yf0 := Hy.out.froz 0
  have yc1 := Hy.out.cell 1 _ rfl
  have yf1 := Hy.out.froz 1
  have yl := Hy.out.lt
  have rc0 := Hr.out.cell 0 _ rfl
  have rf0 := Hr.out.froz 0
  have rc1 := Hr.out.cell 1 _ rfl
  have rf1 := Hr.out.froz 1
  have rl := Hr.out.lt
  go_wp2_with fail
  refine (ref_whole m2 e2 hm2 h2 _).mono ?_
  rw [k2]
  rintro r W3 ⟨rfl, hb⟩
  clear xc0 xc1 xf0 xf1 xl yc0 yc1 yf0 yf1 yl rc0 rc1 rf0 rf1 rl
  replace Hx := Keep.mk (Hx.out.below hb Hx.out.lt)
  replace Hy := Keep.mk (Hy.out.below hb Hy.out.lt)
  replace Hr := Keep.mk (Hr.out.below hb Hr.out.lt)
  replace HB := Keep.mk (up HB.out hb)
  have xc0 := Hx.out.cell 0 _ rfl
  have xf0 := Hx.out.froz 0
  have xc1 := Hx.out.cell 1 _ rfl
  have xf1 := Hx.out.froz 1
  have xl := Hx.out.lt
  have yc0 := Hy.out.cell 0 _ rfl
  have yf0 := Hy.out.froz 0
  have yc1 := Hy.out.cell 1 _ rfl
  have yf1 := Hy.out.froz 1
  have yl := Hy.out.lt
  have rc0 := Hr.out.cell 0 _ rfl
  have rf0 := Hr.out.froz 0
  have rc1 := Hr.out.cell 1 _ rfl
  have rf1 := Hr.out.froz 1
  have rl := Hr.out.lt
  go_wp2
  refine bodyPost_ret (v := numRes ((0, 0), 11)) ?_ rfl ⟨rfl, st1 (st1 HB.out _ _ _ (by omega)) _ _ _ (by omega)⟩
  simp [numRes, results, Tryd.results41, go_sem, rc0, rc1]
set_option maxRecDepth 100000 in
set_option maxHeartbeats 1000000 in
theorem rrem_ok (m1 e1 m2 e2 : Int) (hm1 : I64 m1) (hm2 : I64 m2) (hw : wrongS m1 e1 m2 e2 = 0) (h1 : right m1 e1 = true) (h2 : right m2 e2 = true) (hz : m2 ≠ 0) (k1 : wOk m1 e1 = true) (k2 : wOk m2 e2 = true) (p q k : Int) (hr : norm (decide (m1 < 0)) (wN m1 e1 % wN m2 e2) 0 = ((p, q), k)) (w : World) : Calls Tryd.prog 41 #[.agg #[.int .i64 m1, .int .i64 e1], .agg #[.int .i64 m2, .int .i64 e2]] w fun r w' => r = .returned (numRes ((p, q), k)) ∧ Below w.heap.size w w' := by
  have HW := Keep.mk hw
  clear hw
  have HR := Keep.mk ((rem_norm (e1 := e1) (e2 := e2) hz).trans hr)
  have B1 := whole_bd k1
  have B2 := whole_bd k2
  obtain ⟨X, hX⟩ : ∃ X, m1 * ((10 ^ e1.toNat : Nat) : Int) = X := ⟨_, rfl⟩
  obtain ⟨Y, hY⟩ : ∃ Y, m2 * ((10 ^ e2.toNat : Nat) : Int) = Y := ⟨_, rfl⟩
  have BX : X.natAbs < 1000000000000000000 := by rw [← hX, Int.natAbs_mul]; exact B1.2
  have BY : Y.natAbs < 1000000000000000000 := by rw [← hY, Int.natAbs_mul]; exact B2.2
  have hY0 : Y ≠ 0 := by rw [← hY]; exact Int.mul_ne_zero hz (by have := Nat.pow_pos (n := e2.toNat) (show 0 < 10 by omega); omega)
  rw [hX, hY] at HR
  have HX := Keep.mk hX
  have HY := Keep.mk hY
  clear B1 B2 hX hY hr
  obtain ⟨Z, hZ⟩ : ∃ Z, X.tmod Y = Z := ⟨_, rfl⟩
  have BZ : Z.natAbs < 1000000000000000000 := by rw [← hZ, Int.natAbs_tmod]; exact Nat.lt_of_le_of_lt (Nat.mod_le _ _) BX
  rw [hZ] at HR
  have HYB : (Y == 0) = false := by simpa using hY0
  have hX1 : -1000000000000000000 ≤ X := by omega
  have hX2 : X ≤ 1000000000000000000 := by omega
  have hY1 : -1000000000000000000 ≤ Y := by omega
  have hY2 : Y ≤ 1000000000000000000 := by omega
  have hZI : I64 Z := ⟨by omega, by omega⟩
  have hZ1 : -1000000000000000000 ≤ Z := by omega
  have hZ2 : Z ≤ 1000000000000000000 := by omega
  have HD := Keep.mk (digs_digs Z.natAbs)
  have HV := Keep.mk (val_digs Z.natAbs)
  have HL := digs_len Z.natAbs (by omega)
  clear BX BY BZ
  go_enter Tryd.func41, Tryd.ntmps41
  go_wp2_with fail
  refine (ref_sure m1 e1 m2 e2 hm1 hm2 _).mono ?_
  rw [HW.out]
  rintro r W1 ⟨rfl, hb⟩
  have Hx := Keep.mk ((((Box.new (w := w) (n := w.heap.size) [.int .i64 m1, .int .i64 e1] 23 (by first | rfl | simp)).alloc (.cells #[.int .i64 m2, .int .i64 e2] 23)).alloc (.cells #[.int .i64 0, .int .i64 0] 23)).below hb (by simp only [World.size_alloc]; omega))
  have Hy := Keep.mk (((Box.new (w := (w.alloc (.cells #[.int .i64 m1, .int .i64 e1] 23))) (n := w.heap.size + 1) [.int .i64 m2, .int .i64 e2] 23 (by first | rfl | simp)).alloc (.cells #[.int .i64 0, .int .i64 0] 23)).below hb (by simp only [World.size_alloc]; omega))
  have Hr := Keep.mk ((Box.new (w := ((w.alloc (.cells #[.int .i64 m1, .int .i64 e1] 23)).alloc (.cells #[.int .i64 m2, .int .i64 e2] 23))) (n := w.heap.size + 2) [.int .i64 0, .int .i64 0] 23 (by first | rfl | simp)).below hb (by simp only [World.size_alloc]; omega))
  have HB := Keep.mk (up (al3 w _ _ _) hb)
  have xc0 := Hx.out.cell 0 _ rfl
  have xf0 := Hx.out.froz 0
  have xc1 := Hx.out.cell 1 _ rfl
  have xf1 := Hx.out.froz 1
  have xl := Hx.out.lt
  have yc0 := Hy.out.cell 0 _ rfl
  have yf0 := Hy.out.froz 0
  have yc1 := Hy.out.cell 1 _ rfl
  have yf1 := Hy.out.froz 1
  have yl := Hy.out.lt
  have rc0 := Hr.out.cell 0 _ rfl
  have rf0 := Hr.out.froz 0
  have rc1 := Hr.out.cell 1 _ rfl
  have rf1 := Hr.out.froz 1
  have rl := Hr.out.lt
  go_wp2_with fail
  refine (ref_whole m1 e1 hm1 h1 _).mono ?_
  rw [k1, if_pos rfl, HX.out]
  rintro r W2 ⟨rfl, hb⟩
  clear xc0 xc1 xf0 xf1 xl yc0 yc1 yf0 yf1 yl rc0 rc1 rf0 rf1 rl
  replace Hx := Keep.mk (Hx.out.below hb Hx.out.lt)
  replace Hy := Keep.mk (Hy.out.below hb Hy.out.lt)
  replace Hr := Keep.mk (Hr.out.below hb Hr.out.lt)
  replace HB := Keep.mk (up HB.out hb)
  have xc0 := Hx.out.cell 0 _ rfl
  have xf0 := Hx.out.froz 0
  have xc1 := Hx.out.cell 1 _ rfl
  have xf1 := Hx.out.froz 1
  have xl := Hx.out.lt
  have yc0 := Hy.out.cell 0 _ rfl
  have yf0 := Hy.out.froz 0
  have yc1 := Hy.out.cell 1 _ rfl
  have yf1 := Hy.out.froz 1
  have yl := Hy.out.lt
  have rc0 := Hr.out.cell 0 _ rfl
  have rf0 := Hr.out.froz 0
  have rc1 := Hr.out.cell 1 _ rfl
  have rf1 := Hr.out.froz 1
  have rl := Hr.out.lt
  go_wp2_with fail
  refine (ref_whole m2 e2 hm2 h2 _).mono ?_
  rw [k2, if_pos rfl, HY.out]
  rintro r W3 ⟨rfl, hb⟩
  clear xc0 xc1 xf0 xf1 xl yc0 yc1 yf0 yf1 yl rc0 rc1 rf0 rf1 rl
  replace Hx := Keep.mk (Hx.out.below hb Hx.out.lt)
  replace Hy := Keep.mk (Hy.out.below hb Hy.out.lt)
  replace Hr := Keep.mk (Hr.out.below hb Hr.out.lt)
  replace HB := Keep.mk (up HB.out hb)
  have xc0 := Hx.out.cell 0 _ rfl
  have xf0 := Hx.out.froz 0
  have xc1 := Hx.out.cell 1 _ rfl
  have xf1 := Hx.out.froz 1
  have xl := Hx.out.lt
  have yc0 := Hy.out.cell 0 _ rfl
  have yf0 := Hy.out.froz 0
  have yc1 := Hy.out.cell 1 _ rfl
  have yf1 := Hy.out.froz 1
  have yl := Hy.out.lt
  have rc0 := Hr.out.cell 0 _ rfl
  have rf0 := Hr.out.froz 0
  have rc1 := Hr.out.cell 1 _ rfl
  have rf1 := Hr.out.froz 1
  have rl := Hr.out.lt
  go_wp2_with fail
  refine (long_at Z 0 hZI _).mono ?_
  rintro r W4 ⟨A1, c1, rfl, hI1, hb⟩
  clear xc0 xc1 xf0 xf1 xl yc0 yc1 yf0 yf1 yl rc0 rc1 rf0 rf1 rl
  replace Hx := Keep.mk (Hx.out.below hb Hx.out.lt)
  replace Hy := Keep.mk (Hy.out.below hb Hy.out.lt)
  replace Hr := Keep.mk (Hr.out.below hb Hr.out.lt)
  replace HB := Keep.mk (up HB.out hb)
  have xc0 := Hx.out.cell 0 _ rfl
  have xf0 := Hx.out.froz 0
  have xc1 := Hx.out.cell 1 _ rfl
  have xf1 := Hx.out.froz 1
  have xl := Hx.out.lt
  have yc0 := Hy.out.cell 0 _ rfl
  have yf0 := Hy.out.froz 0
  have yc1 := Hy.out.cell 1 _ rfl
  have yf1 := Hy.out.froz 1
  have yl := Hy.out.lt
  have rc0 := Hr.out.cell 0 _ rfl
  have rf0 := Hr.out.froz 0
  have rc1 := Hr.out.cell 1 _ rfl
  have rf1 := Hr.out.froz 1
  have rl := Hr.out.lt
  go_wp2_with fail
  refine (short_as _ A1 c1 _ 0 HD.out (by omega) (by omega) p q k (by rw [HV.out]; exact HR.out) _ hI1).mono ?_
  rintro r W5 ⟨rfl, hb⟩
  clear xc0 xc1 xf0 xf1 xl yc0 yc1 yf0 yf1 yl rc0 rc1 rf0 rf1 rl
  replace Hx := Keep.mk (Hx.out.below hb Hx.out.lt)
  replace Hy := Keep.mk (Hy.out.below hb Hy.out.lt)
  replace Hr := Keep.mk (Hr.out.below hb Hr.out.lt)
  replace HB := Keep.mk (up HB.out hb)
  have xc0 := Hx.out.cell 0 _ rfl
  have xf0 := Hx.out.froz 0
  have xc1 := Hx.out.cell 1 _ rfl
  have xf1 := Hx.out.froz 1
  have xl := Hx.out.lt
  have yc0 := Hy.out.cell 0 _ rfl
  have yf0 := Hy.out.froz 0
  have yc1 := Hy.out.cell 1 _ rfl
  have yf1 := Hy.out.froz 1
  have yl := Hy.out.lt
  have rc0 := Hr.out.cell 0 _ rfl
  have rf0 := Hr.out.froz 0
  have rc1 := Hr.out.cell 1 _ rfl
  have rf1 := Hr.out.froz 1
  have rl := Hr.out.lt
  go_wp2
  refine bodyPost_ret (v := numRes ((p, q), k)) ?_ rfl ⟨rfl, st1 (st1 HB.out _ _ _ (by omega)) _ _ _ (by omega)⟩
  simp [numRes, results, Tryd.results41, go_sem, rc0, rc1]
theorem ref_Rem (m1 e1 m2 e2 : Int) (hm1 : I64 m1) (hm2 : I64 m2) (w : World) : Calls Tryd.prog 41 #[.agg #[.int .i64 m1, .int .i64 e1], .agg #[.int .i64 m2, .int .i64 e2]] w fun r w' => r = .returned (numRes (remN m1 e1 m2 e2)) ∧ Below w.heap.size w w' := by
  unfold remN
  by_cases hw : wrongS m1 e1 m2 e2 = 0
  · rw [if_neg (by simpa using hw)]
    obtain ⟨h1, h2, hz⟩ := wrong_zero hw
    cases k1 : wOk m1 e1
    · cases k2 : wOk m2 e2
      · exact rrem_no1 m1 e1 m2 e2 hm1 hm2 hw h1 h2 k1 k2 w
      · exact rrem_no3 m1 e1 m2 e2 hm1 hm2 hw h1 h2 k1 k2 w
    · cases k2 : wOk m2 e2
      · exact rrem_no2 m1 e1 m2 e2 hm1 hm2 hw h1 h2 k1 k2 w
      · obtain ⟨⟨⟨p, q⟩, k⟩, hr⟩ : ∃ x, norm (decide (m1 < 0)) (wN m1 e1 % wN m2 e2) 0 = x := ⟨_, rfl⟩
        have := rrem_ok m1 e1 m2 e2 hm1 hm2 hw h1 h2 hz k1 k2 p q k hr w
        simp only [Bool.and_self, ↓reduceIte]
        rw [hr]; exact this
  · rw [if_pos hw]
    exact rrem_bad m1 e1 m2 e2 hm1 hm2 _ rfl (by simpa using hw) w
end Go.Proofs.YtljemfajjeoecaaDoor
