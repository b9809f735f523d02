/- The references' Right, least and above. Conditions: the numbers are of int64 and int; rows of digits are as long as one another. -/
import Derived.Test.YtljemfajjeoecaaDoorRefLong
namespace Go.Proofs.YtljemfajjeoecaaDoor
open Go Go.RowKit Go.Proofs Th
attribute [local go_sem] Above.cell Above.frozen

theorem right_far {m e : Int} (h : e < -64 ∨ 64 < e) : right m e = false := by
  unfold right
  split
  · simp; omega
  · simp; omega
theorem right_norm (m e : Int) (r : (Int × Int) × Int) (h : norm (decide (m < 0)) m.natAbs e = r) : (if r.2 = 0 then (r.1.1 == m && r.1.2 == e) else false) = right m e := by
  cases hr : right m e with
  | true =>
    have h2 := normZ_right hr
    unfold normZ at h2
    rw [h2] at h
    subst h
    simp
  | false =>
    split
    · rename_i h0
      obtain ⟨⟨a, b⟩, c⟩ := r
      simp only at h0
      subst h0
      simp only [Bool.and_eq_false_iff, beq_eq_false_iff_ne]
      by_cases ha : a = m
      · by_cases hb : b = e
        · subst ha hb
          rw [right_of_norm h] at hr
          cases hr
        · right; exact hb
      · left; exact ha
    · rfl

set_option maxRecDepth 100000 in
theorem ref_Right (m e : Int) (hm : I64 m) (w : World) :
    Calls Tryd.prog 31 #[.agg #[.int .i64 m, .int .i64 e]] w fun r w' => r = .returned (.bool (right m e)) ∧ Below w.heap.size w w' := by
  by_cases h1 : e < -64
  · have HR := Keep.mk (right_far (m := m) (Or.inl h1))
    go_enter Tryd.func31, Tryd.ntmps31
    go_wp2
    go_ret
    exact ⟨ret_bool HR.out.symm, al1 _ _⟩
  by_cases h2 : 64 < e
  · have HR := Keep.mk (right_far (m := m) (Or.inr h2))
    go_enter Tryd.func31, Tryd.ntmps31
    go_wp2
    go_ret
    exact ⟨ret_bool HR.out.symm, al1 _ _⟩
  have HN := Keep.mk (digs_len m.natAbs (by have := hm.lo; have := hm.hi; omega))
  have HD := Keep.mk (digs_digs m.natAbs)
  have HV := Keep.mk (val_digs m.natAbs)
  obtain ⟨r, hr⟩ : ∃ r, norm (decide (m < 0)) m.natAbs e = r := ⟨_, rfl⟩
  have HR := Keep.mk (right_norm m e r hr)
  have HE := Keep.mk (norm_err (decide (m < 0)) m.natAbs e)
  have HH := Keep.mk hr
  clear hr
  go_enter Tryd.func31, Tryd.ntmps31
  go_wp2_with fail
  refine (ref_long m e hm _).mono ?_
  rintro r1 w1 ⟨A, c, rfl, hI, hb1⟩
  unfold longV
  go_wp2_with fail
  refine (ref_short (decide (m < 0)) A c (digs m.natAbs) e HD.out (by have := HN.out; omega) (by omega) (by omega) w1 hI).mono ?_
  rw [HV.out, HH.out]
  rintro r2 w2 ⟨rfl, hb2'⟩
  have hb2 := up hb1 hb2'
  obtain ⟨hc, hf⟩ := bcell hb2
  have n0 : w.heap.size < w2.heap.size := by have := hb2.size; simp at this; omega
  obtain ⟨⟨a, b⟩, k⟩ := r
  by_cases hk : k = 0
  · subst hk
    have HR2 := Keep.mk (show (a == m && b == e) = right m e from HR.out)
    unfold numRes
    go_wp2
    go_ret
    exact ⟨ret_bool HR2.out, up (up (al1 _ _) hb2) (al1 _ _)⟩
  · have hkb : (k == 0) = false := by simpa using hk
    have HR2 := Keep.mk (show false = right m e by have := HR.out; rw [if_neg hk] at this; exact this)
    unfold numRes
    go_wp2
    go_ret
    exact ⟨ret_bool HR2.out, up (up (al1 _ _) hb2) (al1 _ _)⟩

theorem ref_least (a b : Int) (w : World) : Calls Tryd.prog 144 #[.int .i64 a, .int .i64 b] w fun r w' => r = .returned (.int .i64 (low a b)) ∧ Below w.heap.size w w' := by
  by_cases h : a < b
  · have HE := Keep.mk (show a = low a b by unfold low; rw [if_pos (by omega)])
    go_enter Tryd.func144, Tryd.ntmps144
    go_wp2
    go_ret
    exact ⟨ret_i64 HE.out, Below.refl _ _⟩
  · have HE := Keep.mk (show b = low a b by unfold low; split <;> omega)
    go_enter Tryd.func144, Tryd.ntmps144
    go_wp2
    go_ret
    exact ⟨ret_i64 HE.out, Below.refl _ _⟩

theorem gtL_drop (a b : List Nat) (k : Nat) (ha : k < a.length) (hb : k < b.length) : gtL (a.drop k) (b.drop k) = if a[k] ≠ b[k] then decide (b[k] < a[k]) else gtL (a.drop (k + 1)) (b.drop (k + 1)) := by
  rw [List.drop_eq_getElem_cons ha, List.drop_eq_getElem_cons hb]
  rfl

set_option maxRecDepth 100000 in
theorem ref_above (A A2 : Option Addr) (c c2 : Nat) (a b : List Nat) (hl : a.length = b.length) (hm : a.length ≤ 1000000) (w : World) (hI : IntsAt w w.heap.size A c a) (hJ : IntsAt w w.heap.size A2 c2 b) :
    Calls Tryd.prog 115 #[.slice A a.length c, .slice A2 b.length c2] w fun r w' => r = .returned (.bool (gtL a b)) ∧ Below w.heap.size w w' := by
  have HI := Keep.mk hI
  have HJ := Keep.mk hJ
  have HL := Keep.mk hl
  rw [← hl]
  clear hI hJ hl
  go_enter Tryd.func115, Tryd.ntmps115
  go_wp2_with fail
  go_loopw [5] (fun i wr => ∃ k : Nat, k ≤ a.length ∧ i = .int .i64 k ∧ Keep (gtL (a.drop k) (b.drop k) = gtL a b) ∧ Below w.heap.size w wr) (fun i _ => a.length - (intOf i).toNat)
  case atStart => exact ⟨0, Nat.zero_le _, rfl, ⟨rfl⟩, Below.refl _ _⟩
  case round =>
    obtain ⟨k, hk, rfl, HG, hb⟩ := hrel
    by_cases hlt : k < a.length
    · obtain ⟨g, o, rfl, hg, hc⟩ := (HI.out.below hb (Nat.le_refl _)).at_ (by omega)
      obtain ⟨g', o', rfl, hg', hc'⟩ := (HJ.out.below hb (Nat.le_refl _)).at_ (by rw [← HL.out]; omega)
      have hck := hc k hlt
      have hck' := hc' k (by rw [← HL.out]; omega)
      have hg2 := Nat.lt_of_lt_of_le hg hb.size
      have hg2' := Nat.lt_of_lt_of_le hg' hb.size
      have hcap := HI.out.le
      have hcap' := HJ.out.le
      rw [← HL.out] at hcap'
      have HD := Keep.mk (gtL_drop a b k hlt (by rw [← HL.out]; omega))
      clear hc hc'
      have hx : k < b.length := by rw [← HL.out]; omega
      generalize a[k] = x at *
      generalize b[k] = y at *
      clear hx
      by_cases hxy : x = y
      · subst hxy
        have HG2 := Keep.mk (show gtL (a.drop (k + 1)) (b.drop (k + 1)) = gtL a b by rw [← HG.out, HD.out, if_neg (by simp)])
        go_wp2_with fail
        refine wp_region_above (by kernel_rfl) (by kernel_rfl) ?_
        repeat (go_big_quiet_step (fail))
        refine wpQuiet_nil ?_
        rintro _ ⟨z, rfl⟩
        go_wp2
        go_roundw
        case rel => exact ⟨k + 1, by omega, by go_num, HG2, up hb z.property⟩
        case measure => simp [intOf]; omega
      · have hxb : ((x : Int) != y) = true := by rw [bne_iff_ne]; omega
        have HE := Keep.mk (show decide (y < x) = gtL a b by rw [← HG.out, HD.out, if_pos hxy])
        clear hxy HD
        go_wp2_with fail
        refine wp_region_above (by kernel_rfl) (by kernel_rfl) ?_
        repeat (go_big_quiet_step (fail))
        refine wpQuiet_nil ?_
        rintro _ ⟨z, rfl⟩
        have hz := z.property.size
        have hz1 := Nat.lt_of_lt_of_le hg2 hz
        have hz2 := Nat.lt_of_lt_of_le hg2' hz
        go_wp2_with fail
        refine wp_region_above (by kernel_rfl) (by kernel_rfl) ?_
        repeat (go_big_quiet_step (fail))
        refine wpQuiet_nil ?_
        rintro _ ⟨z2, rfl⟩
        go_wp2
        go_ret
        exact ⟨ret_bool HE.out, up (up hb z.property) z2.property⟩
    · have HE := Keep.mk (show false = gtL a b by rw [← HG.out, List.drop_eq_nil_of_le (by omega)]; rfl)
      go_wp2
      go_ret
      exact ⟨ret_bool HE.out, hb⟩
end Go.Proofs.YtljemfajjeoecaaDoor
