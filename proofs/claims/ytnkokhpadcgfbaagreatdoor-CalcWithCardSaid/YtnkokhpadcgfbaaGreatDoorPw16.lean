/- Lemmas and contracts for the laws CalcWith, part 16 of 50: Cmp. Conditions: those that each lemma names. -/
import Derived.Test.YtnkokhpadcgfbaaGreatDoorPw12
import Derived.Test.YtnkokhpadcgfbaaGreatDoorPw13
import Derived.Test.YtnkokhpadcgfbaaGreatDoorPw5
import Derived.Test.YtnkokhpadcgfbaaGreatDoorPw1
import Derived.StillTail
namespace Go.Proofs.YtnkokhpadcgfbaaGreatDoor
open Go Go.RowKit Go.Proofs Th
attribute [local go_sem] Above.cell
def cmpS (m1 e1 m2 e2 : Int) : Int :=
  if m1.sign ≠ m2.sign ∨ m1.sign = 0 then cmp3 m1.sign m2.sign
  else if (nd m1 : Int) + e1 ≠ (nd m2 : Int) + e2 then m1.sign * cmp3 ((nd m1 : Int) + e1) ((nd m2 : Int) + e2)
  else m1.sign * Lib.compareBytes (Lib.decDigits m1.natAbs) (Lib.decDigits m2.natAbs)
def cmpN (m1 e1 m2 e2 : Int) : Int × Int := if right m1 e1 && right m2 e2 then (cmpS m1 e1 m2 e2, 0) else (0, 10)
def cmpRes (p : Int × Int) : Value := .tuple #[.int .i64 p.1, .int .i64 p.2]
theorem cmp3_bd (a b : Int) : -1 ≤ cmp3 a b ∧ cmp3 a b ≤ 1 := by unfold cmp3; split <;> (try split) <;> omega
theorem compareBytes_bd : ∀ a b : List UInt8, -1 ≤ Lib.compareBytes a b ∧ Lib.compareBytes a b ≤ 1 := by
  intro a
  induction a with
  | nil => intro b; cases b <;> simp [Lib.compareBytes]
  | cons x a ih =>
    intro b
    cases b with
    | nil => simp [Lib.compareBytes]
    | cons y b =>
      simp only [Lib.compareBytes]
      split
      · omega
      · split
        · omega
        · exact ih b
theorem sign_bd (a : Int) : a.sign = -1 ∨ a.sign = 0 ∨ a.sign = 1 := by
  rcases Int.lt_trichotomy a 0 with h | h | h
  · left; exact Int.sign_eq_neg_one_of_neg h
  · right; left; subst h; rfl
  · right; right; exact Int.sign_eq_one_of_pos h
theorem wrap_sign_mul {a c : Int} (h0 : -1 ≤ c) (h1 : c ≤ 1) : IntKind.i64.wrap (a.sign * c) = a.sign * c := by
  apply IntWalk.i64_in
  rcases sign_bd a with h | h | h <;> rw [h] <;> omega
theorem wrap_sign_cmp {a p q : Int} : IntKind.i64.wrap (a.sign * cmp3 p q) = a.sign * cmp3 p q := wrap_sign_mul (cmp3_bd p q).1 (cmp3_bd p q).2
def cmpT (s t : ByteArray) : Int := Lib.compareBytes s.data.toList t.data.toList
theorem wrap_sign_cmpT {a : Int} {s t : ByteArray} : IntKind.i64.wrap (a.sign * cmpT s t) = a.sign * cmpT s t := wrap_sign_mul (compareBytes_bd _ _).1 (compareBytes_bd _ _).2
theorem compareT (a b : ByteArray) (w : World) : Calls Tryz.prog 122 #[.string a, .string b] w fun r w' => r = .returned (.int .i64 (cmpT a b)) ∧ Below w.heap.size w w' := compareStr a b w
attribute [local go_sem] wrap_sign_cmp wrap_sign_cmpT
theorem ret_cmp {a b c : Int} (h : a = c) : Ending.returned (.tuple #[.int .i64 a, .int .i64 b]) = .returned (cmpRes (c, b)) := by rw [h]; rfl
theorem cmp_wrong1 (m1 e1 m2 e2 : Int) (hm1 : I64 m1) (_hm2 : I64 m2) (h1 : right m1 e1 = false) (w : World) (hg : GlobP w) : Calls Tryz.prog 121 #[.agg #[.int .i64 m1, .int .i64 e1], .agg #[.int .i64 m2, .int .i64 e2]] w fun r w' =>
    r = .returned (cmpRes (0, 10)) ∧ Below w.heap.size w w' := by
  go_enter Tryz.func121, Tryz.ntmps121
  go_wp2_with fail
  refine (num_Right m1 e1 hm1.lo hm1.hi _ (hg.below (al2 _ _ _)).weak).mono ?_
  rw [h1]
  rintro r w1 ⟨rfl, hb1⟩
  obtain ⟨hc, hf⟩ := bcell hb1
  go_wp2
  go_ret2
  exact ⟨rfl, up (al2 _ _ _) hb1⟩
theorem cmp_wrong2 (m1 e1 m2 e2 : Int) (hm1 : I64 m1) (hm2 : I64 m2) (h1 : right m1 e1 = true) (h2 : right m2 e2 = false) (w : World) (hg : GlobP w) : Calls Tryz.prog 121 #[.agg #[.int .i64 m1, .int .i64 e1], .agg #[.int .i64 m2, .int .i64 e2]] w fun r w' =>
    r = .returned (cmpRes (0, 10)) ∧ Below w.heap.size w w' := by
  go_enter Tryz.func121, Tryz.ntmps121
  go_wp2_with fail
  refine (num_Right m1 e1 hm1.lo hm1.hi _ (hg.below (al2 _ _ _)).weak).mono ?_
  rw [h1]
  rintro r w1 ⟨rfl, hb1⟩
  obtain ⟨hc, hf⟩ := bcell hb1
  go_wp2_with fail
  refine (num_Right m2 e2 hm2.lo hm2.hi _ (hg.below (up (al2 _ _ _) hb1))).mono ?_
  rw [h2]
  rintro r w2 ⟨rfl, hb2'⟩
  have hb2 := up hb1 hb2'
  clear hc hf
  obtain ⟨hc, hf⟩ := bcell hb2
  go_wp2
  go_ret2
  exact ⟨rfl, up (al2 _ _ _) hb2⟩
set_option maxRecDepth 100000 in
theorem cmp_signs (m1 e1 m2 e2 : Int) (hm1 : I64 m1) (hm2 : I64 m2) (h1 : right m1 e1 = true) (h2 : right m2 e2 = true) (hs : (m1.sign != m2.sign) = true ∨ ((m1.sign != m2.sign) = false ∧ (m1.sign == 0) = true)) (w : World) (hg : GlobP w) : Calls Tryz.prog 121 #[.agg #[.int .i64 m1, .int .i64 e1], .agg #[.int .i64 m2, .int .i64 e2]] w fun r w' =>
    r = .returned (cmpRes (cmp3 m1.sign m2.sign, 0)) ∧ Below w.heap.size w w' := by
  rcases hs with hs | ⟨hs, hs2⟩
  all_goals
    go_enter Tryz.func121, Tryz.ntmps121
    go_wp2_with fail
    refine (num_Right m1 e1 hm1.lo hm1.hi _ (hg.below (al2 _ _ _)).weak).mono ?_
    rw [h1]
    rintro r w1 ⟨rfl, hb1⟩
    obtain ⟨hc, hf⟩ := bcell hb1
    go_wp2_with fail
    refine (num_Right m2 e2 hm2.lo hm2.hi _ (hg.below (up (al2 _ _ _) hb1))).mono ?_
    rw [h2]
    rintro r w2 ⟨rfl, hb2'⟩
    have hb2 := up hb1 hb2'
    clear hc hf
    obtain ⟨hc, hf⟩ := bcell hb2
    go_wp2_with fail
    refine wp_region_from hb2 (by kernel_rfl) (by kernel_rfl) ?_
    repeat (go_big_quiet_step ((go_at_call 110; exact calls_above (num_sign _ _ _))))
    refine wpQuiet_nil ?_
    rintro _ ⟨x3, rfl⟩
    have hb3 := x3.property
    clear hc hf
    obtain ⟨hc, hf⟩ := bcell hb3
    go_wp2_with fail
    refine (num_compare m1.sign m2.sign _).mono ?_
    rintro r w4 ⟨rfl, hb4'⟩
    have hb4 := up hb3 hb4'
    clear hc hf
    obtain ⟨hc, hf⟩ := bcell hb4
    go_wp2
    go_ret2
    exact ⟨rfl, up (al2 _ _ _) hb4⟩
set_option maxRecDepth 100000 in
theorem cmp_far (m1 e1 m2 e2 : Int) (hm1 : I64 m1) (hm2 : I64 m2) (h1 : right m1 e1 = true) (h2 : right m2 e2 = true) (hs : (m1.sign != m2.sign) = false) (hs2 : (m1.sign == 0) = false) (hpq : ((nd m1 : Int) + e1 != (nd m2 : Int) + e2) = true) (w : World) (hg : GlobP w) : Calls Tryz.prog 121 #[.agg #[.int .i64 m1, .int .i64 e1], .agg #[.int .i64 m2, .int .i64 e2]] w fun r w' =>
    r = .returned (cmpRes (m1.sign * cmp3 ((nd m1 : Int) + e1) ((nd m2 : Int) + e2), 0)) ∧ Below w.heap.size w w' := by
  obtain ⟨A, S, hA1, hA2, hA3, hA4, hA5⟩ := fmt_size m1 e1 hm1 h1
  obtain ⟨B, T, hB1, hB2, hB3, hB4, hB5⟩ := fmt_size m2 e2 hm2 h2
  have hx1 := right_exp h1
  have hx2 := right_exp h2
  have hS : S.size ≤ 18 := by rw [hA3]; exact nd_le h1
  have hT : T.size ≤ 18 := by rw [hB3]; exact nd_le h2
  rw [← hA3, ← hB3] at hpq
  have HA4 := Keep.mk hA4
  have HA5 := Keep.mk hA5
  have HB4 := Keep.mk hB4
  have HB5 := Keep.mk hB5
  have HA3 := Keep.mk hA3
  have HB3 := Keep.mk hB3
  have HC := Keep.mk (show cmpT S T = Lib.compareBytes (Lib.decDigits m1.natAbs) (Lib.decDigits m2.natAbs) by rw [hA2, hB2]; rfl)
  clear hA1 hA2 hA3 hA4 hA5 hB1 hB2 hB3 hB4 hB5
  have hgx : ∀ y : Above ((w.alloc (.cells #[.int .i64 m1, .int .i64 e1] 23)).alloc (.cells #[.int .i64 m2, .int .i64 e2] 23)), GlobP y.val := fun y => hg.below (up (al2 _ _ _) y.property)
  go_enter Tryz.func121, Tryz.ntmps121
  go_wp2_with fail
  refine (num_Right m1 e1 hm1.lo hm1.hi _ (hg.below (al2 _ _ _)).weak).mono ?_
  rw [h1]
  rintro r w1 ⟨rfl, hb1⟩
  obtain ⟨hc, hf⟩ := bcell hb1
  go_wp2_with fail
  refine (num_Right m2 e2 hm2.lo hm2.hi _ (hg.below (up (al2 _ _ _) hb1))).mono ?_
  rw [h2]
  rintro r w2 ⟨rfl, hb2'⟩
  have hb2 := up hb1 hb2'
  clear hc hf
  obtain ⟨hc, hf⟩ := bcell hb2
  go_wp2_with fail
  refine wp_region_from hb2 (by kernel_rfl) (by kernel_rfl) ?_
  repeat (go_big_quiet_step ((go_at_call 110; exact calls_above (num_sign _ _ _))))
  refine wpQuiet_nil ?_
  rintro _ ⟨x3, rfl⟩
  have hb3 := x3.property
  clear hc hf
  obtain ⟨hc, hf⟩ := bcell hb3
  go_wp2_with fail
  refine wp_region_from hb3 (by kernel_rfl) (by kernel_rfl) ?_
  repeat (go_big_quiet_step (first | (go_at_call 72; first | (with_reducible exact calls_above (HA4.out _)) | (with_reducible exact calls_above (HB4.out _))) | (go_at_call 119; first | (with_reducible exact calls_above (HA5.out _ (hgx _))) | (with_reducible exact calls_above (HB5.out _ (hgx _))))))
  refine wpQuiet_nil ?_
  rintro _ ⟨x4, rfl⟩
  have hb4 := x4.property
  clear hc hf
  obtain ⟨hc, hf⟩ := bcell hb4
  go_wp2_with fail
  refine (num_compare _ _ _).mono ?_
  rintro r w5 ⟨rfl, hb5'⟩
  have hb5 := up hb4 hb5'
  clear hc hf
  obtain ⟨hc, hf⟩ := bcell hb5
  go_wp2
  go_ret2
  exact ⟨ret_cmp (by rw [HA3.out, HB3.out]), up (al2 _ _ _) hb5⟩
set_option maxRecDepth 100000 in
theorem cmp_near (m1 e1 m2 e2 : Int) (hm1 : I64 m1) (hm2 : I64 m2) (h1 : right m1 e1 = true) (h2 : right m2 e2 = true) (hs : (m1.sign != m2.sign) = false) (hs2 : (m1.sign == 0) = false) (hpq : ((nd m1 : Int) + e1 != (nd m2 : Int) + e2) = false) (w : World) (hg : GlobP w) : Calls Tryz.prog 121 #[.agg #[.int .i64 m1, .int .i64 e1], .agg #[.int .i64 m2, .int .i64 e2]] w fun r w' =>
    r = .returned (cmpRes (m1.sign * Lib.compareBytes (Lib.decDigits m1.natAbs) (Lib.decDigits m2.natAbs), 0)) ∧ Below w.heap.size w w' := by
  obtain ⟨A, S, hA1, hA2, hA3, hA4, hA5⟩ := fmt_size m1 e1 hm1 h1
  obtain ⟨B, T, hB1, hB2, hB3, hB4, hB5⟩ := fmt_size m2 e2 hm2 h2
  have hx1 := right_exp h1
  have hx2 := right_exp h2
  have hS : S.size ≤ 18 := by rw [hA3]; exact nd_le h1
  have hT : T.size ≤ 18 := by rw [hB3]; exact nd_le h2
  rw [← hA3, ← hB3] at hpq
  have HA4 := Keep.mk hA4
  have HA5 := Keep.mk hA5
  have HB4 := Keep.mk hB4
  have HB5 := Keep.mk hB5
  have HA3 := Keep.mk hA3
  have HB3 := Keep.mk hB3
  have HC := Keep.mk (show cmpT S T = Lib.compareBytes (Lib.decDigits m1.natAbs) (Lib.decDigits m2.natAbs) by rw [hA2, hB2]; rfl)
  clear hA1 hA2 hA3 hA4 hA5 hB1 hB2 hB3 hB4 hB5
  have hgx : ∀ y : Above ((w.alloc (.cells #[.int .i64 m1, .int .i64 e1] 23)).alloc (.cells #[.int .i64 m2, .int .i64 e2] 23)), GlobP y.val := fun y => hg.below (up (al2 _ _ _) y.property)
  go_enter Tryz.func121, Tryz.ntmps121
  go_wp2_with fail
  refine (num_Right m1 e1 hm1.lo hm1.hi _ (hg.below (al2 _ _ _)).weak).mono ?_
  rw [h1]
  rintro r w1 ⟨rfl, hb1⟩
  obtain ⟨hc, hf⟩ := bcell hb1
  go_wp2_with fail
  refine (num_Right m2 e2 hm2.lo hm2.hi _ (hg.below (up (al2 _ _ _) hb1))).mono ?_
  rw [h2]
  rintro r w2 ⟨rfl, hb2'⟩
  have hb2 := up hb1 hb2'
  clear hc hf
  obtain ⟨hc, hf⟩ := bcell hb2
  go_wp2_with fail
  refine wp_region_from hb2 (by kernel_rfl) (by kernel_rfl) ?_
  repeat (go_big_quiet_step ((go_at_call 110; exact calls_above (num_sign _ _ _))))
  refine wpQuiet_nil ?_
  rintro _ ⟨x3, rfl⟩
  have hb3 := x3.property
  clear hc hf
  obtain ⟨hc, hf⟩ := bcell hb3
  go_wp2_with fail
  refine wp_region_from hb3 (by kernel_rfl) (by kernel_rfl) ?_
  repeat (go_big_quiet_step (first | (go_at_call 72; first | (with_reducible exact calls_above (HA4.out _)) | (with_reducible exact calls_above (HB4.out _))) | (go_at_call 119; first | (with_reducible exact calls_above (HA5.out _ (hgx _))) | (with_reducible exact calls_above (HB5.out _ (hgx _))))))
  refine wpQuiet_nil ?_
  rintro _ ⟨x4, rfl⟩
  have hb4 := x4.property
  clear hc hf
  obtain ⟨hc, hf⟩ := bcell hb4
  go_wp2_with fail
  refine wp_region_from hb4 (by kernel_rfl) (by kernel_rfl) ?_
  repeat (go_big_quiet_step (first | (go_at_call 122; exact calls_above (compareT _ _ _)) | (go_at_call 72; first | (with_reducible exact calls_above (HA4.out _)) | (with_reducible exact calls_above (HB4.out _))) | (go_at_call 119; first | (with_reducible exact calls_above (HA5.out _ (hgx _))) | (with_reducible exact calls_above (HB5.out _ (hgx _))))))
  refine wpQuiet_nil ?_
  rintro _ ⟨x5, rfl⟩
  have hb5 := x5.property
  clear hc hf
  obtain ⟨hc, hf⟩ := bcell hb5
  go_wp2
  go_ret2
  exact ⟨ret_cmp (by rw [HC.out]), up (al2 _ _ _) hb5⟩
theorem num_cmp (m1 e1 m2 e2 : Int) (hm1 : I64 m1) (hm2 : I64 m2) (w : World) (hg : GlobP w) : Calls Tryz.prog 121 #[.agg #[.int .i64 m1, .int .i64 e1], .agg #[.int .i64 m2, .int .i64 e2]] w fun r w' =>
    r = .returned (cmpRes (cmpN m1 e1 m2 e2)) ∧ Below w.heap.size w w' := by
  unfold cmpN
  cases h1 : right m1 e1
  · exact cmp_wrong1 m1 e1 m2 e2 hm1 hm2 h1 w hg
  · cases h2 : right m2 e2
    · exact cmp_wrong2 m1 e1 m2 e2 hm1 hm2 h1 h2 w hg
    · simp only [Bool.and_self, ↓reduceIte]
      unfold cmpS
      by_cases hs : m1.sign ≠ m2.sign ∨ m1.sign = 0
      · rw [if_pos hs]
        refine cmp_signs m1 e1 m2 e2 hm1 hm2 h1 h2 ?_ w hg
        by_cases hq : m1.sign = m2.sign
        · right; exact ⟨by simpa using hq, by simpa using hs.resolve_left (fun h => h hq)⟩
        · left; simpa using hq
      · rw [if_neg hs]
        have hs1 : (m1.sign != m2.sign) = false := by
          have : m1.sign = m2.sign := Classical.byContradiction fun h => hs (Or.inl h)
          simpa using this
        have hs2 : (m1.sign == 0) = false := by
          have : ¬ m1.sign = 0 := fun h => hs (Or.inr h)
          simpa using this
        by_cases hpq : (nd m1 : Int) + e1 ≠ (nd m2 : Int) + e2
        · rw [if_pos hpq]; exact cmp_far m1 e1 m2 e2 hm1 hm2 h1 h2 hs1 hs2 (by simpa using hpq) w hg
        · rw [if_neg hpq]; exact cmp_near m1 e1 m2 e2 hm1 hm2 h1 h2 hs1 hs2 (by simpa using hpq) w hg
end Go.Proofs.YtnkokhpadcgfbaaGreatDoor
