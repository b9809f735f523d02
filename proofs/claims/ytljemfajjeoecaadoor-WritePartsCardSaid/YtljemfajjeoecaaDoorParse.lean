/- num.Parse. Conditions: Glob; the text is no longer than texts are. -/
import Derived.Test.YtljemfajjeoecaaDoorMade
import Derived.Test.YtljemfajjeoecaaDoorExp
namespace Go.Proofs.YtljemfajjeoecaaDoor
open Go Go.RowKit Go.Proofs Th
attribute [local go_sem] Above.cell Above.frozen

theorem val_take (T : ByteArray) (h : ∀ k (hk : k < T.size), 48 ≤ T[k].toNat ∧ T[k].toNat ≤ 57) (k : Nat) (hk : k < T.size) (h18 : T.size ≤ 18) :
    val (dgs (T.data.toList.take (k + 1))) = val (dgs (T.data.toList.take k)) * 10 + (T[k].toNat - 48) ∧ val (dgs (T.data.toList.take k)) ≤ 99999999999999999 := by
  constructor
  · rw [List.take_succ_eq_append_getElem (by simpa using hk)]
    unfold dgs
    rw [List.map_append]
    exact val_snoc _ _
  · have hd : Digs (dgs (T.data.toList.take k)) := by
      intro d hd
      obtain ⟨c, hc, rfl⟩ := List.mem_map.1 hd
      obtain ⟨j, hj, rfl⟩ := List.getElem_of_mem (List.mem_of_mem_take hc)
      have := h j (by simpa using hj)
      show T.data.toList[j].toNat - 48 ≤ 9
      have e : T.data.toList[j] = T[j]'(by simpa using hj) := rfl
      rw [e]; omega
    have := val_lt _ hd
    have hl : (dgs (T.data.toList.take k)).length ≤ 17 := by
      unfold dgs; simp; omega
    have := Nat.pow_le_pow_right (n := 10) (by omega) hl
    omega

theorem val_18 (T : ByteArray) (h : ∀ k (hk : k < T.size), 48 ≤ T[k].toNat ∧ T[k].toNat ≤ 57) (h18 : T.size ≤ 18) : val (dgs T.data.toList) ≤ 999999999999999999 := by
  have hd : Digs (dgs T.data.toList) := by
    intro d hd
    obtain ⟨c, hc, rfl⟩ := List.mem_map.1 hd
    obtain ⟨j, hj, rfl⟩ := List.getElem_of_mem hc
    have := h j (by simpa using hj)
    show T.data.toList[j].toNat - 48 ≤ 9
    have e : T.data.toList[j] = T[j]'(by simpa using hj) := rfl
    rw [e]; omega
  have := val_lt _ hd
  have hl : (dgs T.data.toList).length ≤ 18 := by
    unfold dgs; simp; omega
  have := Nat.pow_le_pow_right (n := 10) (by omega) hl
  omega

set_option maxRecDepth 100000 in
theorem parse_Ao (s : ByteArray) (hs : s.size ≤ 2305843009213693952) (hp : Lib.hasPrefix s.data.toList [45] = false) (d : Nat) (hd : nDig s.data.toList = d) (hz0 : ((d : Int) == 0) = true) (w : World) (_hg : Glob w) :
    Calls Tryd.prog 25 #[.string s] w fun r w' => r = .returned (numRes ((0, 0), 10)) ∧ Below w.heap.size w w' := by
  go_enter Tryd.func25, Tryd.ntmps25
  go_wp2_with fail
  refine (hasPrefix s ⟨#[45]⟩ _).mono ?_
  rw [hp]
  rintro r w1 ⟨rfl, hb1⟩
  obtain ⟨hc, hf⟩ := bcell hb1
  go_wp2_with fail
  refine (num_digits s (by omega) _).mono ?_
  rw [hd]
  rintro r w2 ⟨rfl, hb2'⟩
  have hb2 := up hb1 hb2'
  clear hc hf
  obtain ⟨hc, hf⟩ := bcell hb2
  go_wp2_with fail
  refine (num_zero _).mono ?_
  rintro r w3 ⟨rfl, hb3'⟩
  have hb3 := up hb2 hb3'
  clear hc hf
  obtain ⟨hc, hf⟩ := bcell hb3
  go_wp2
  refine bodyPost_ret (v := numRes ((0, 0), 10)) ?_ rfl ⟨rfl, ?_⟩
  · simp [numRes, results, Tryd.results25, go_sem, hc]
  · exact st1 (st1 (up (al1 _ _) hb3) _ _ _ (by omega)) _ _ _ (by omega)

set_option maxRecDepth 100000 in
theorem parse_Bo (s : ByteArray) (hs : s.size ≤ 2305843009213693952) (hp : Lib.hasPrefix s.data.toList [45] = false) (d : Nat) (hd : nDig s.data.toList = d) (h1 : d ≤ s.size) (hz0 : ((d : Int) == 0) = false) (hz : 1 < d) (hu : (((s[0]'(by omega)).toNat : Int) == 48) = true) (w : World) (_hg : Glob w) :
    Calls Tryd.prog 25 #[.string s] w fun r w' => r = .returned (numRes ((0, 0), 10)) ∧ Below w.heap.size w w' := by
  go_enter Tryd.func25, Tryd.ntmps25
  go_wp2_with fail
  refine (hasPrefix s ⟨#[45]⟩ _).mono ?_
  rw [hp]
  rintro r w1 ⟨rfl, hb1⟩
  obtain ⟨hc, hf⟩ := bcell hb1
  go_wp2_with fail
  refine (num_digits s (by omega) _).mono ?_
  rw [hd]
  rintro r w2 ⟨rfl, hb2'⟩
  have hb2 := up hb1 hb2'
  clear hc hf
  obtain ⟨hc, hf⟩ := bcell hb2
  go_wp2_with fail
  refine (num_zero _).mono ?_
  rintro r w3 ⟨rfl, hb3'⟩
  have hb3 := up hb2 hb3'
  clear hc hf
  obtain ⟨hc, hf⟩ := bcell hb3
  go_wp2
  refine bodyPost_ret (v := numRes ((0, 0), 10)) ?_ rfl ⟨rfl, ?_⟩
  · simp [numRes, results, Tryd.results25, go_sem, hc]
  · exact st1 (st1 (up (al1 _ _) hb3) _ _ _ (by omega)) _ _ _ (by omega)

set_option maxRecDepth 100000 in
theorem parse_Co (s : ByteArray) (hs : s.size ≤ 2305843009213693952) (hp : Lib.hasPrefix s.data.toList [45] = false) (d : Nat) (hd : nDig s.data.toList = d) (h1 : d ≤ s.size) (h01 : 1 ≤ d) (hz0 : ((d : Int) == 0) = false) (hz : ¬ 1 < d ∨ (1 < d ∧ (((s[0]'(by omega)).toNat : Int) == 48) = false)) (A R : ByteArray) (hA : s.extract 0 d = A) (hR : s.extract d s.size = R) (_hAs : A.size ≤ 2305843009213693952) (hRs : R.size ≤ 2305843009213693952) (hr : Lib.hasPrefix R.data.toList [46] = true) (hR1 : 0 < R.size) (S : ByteArray) (hS : R.extract 1 R.size = S) (hSs : S.size ≤ 2305843009213693952) (f : Nat) (hf0 : nDig S.data.toList = f) (_hff : f + 1 ≤ R.size) (hf1 : ((f : Int) == 0) = true) (w : World) (_hg : Glob w) :
    Calls Tryd.prog 25 #[.string s] w fun r w' => r = .returned (numRes ((0, 0), 10)) ∧ Below w.heap.size w w' := by
  have HA := Keep.mk hA
  have HR := Keep.mk hR
  clear hA hR
  have HS := Keep.mk hS
  clear hS
  rcases hz with hz | ⟨hz, hu⟩
  all_goals
    go_enter Tryd.func25, Tryd.ntmps25
    go_wp2_with fail
    refine (hasPrefix s ⟨#[45]⟩ _).mono ?_
    rw [hp]
    rintro r w1 ⟨rfl, hb1⟩
    obtain ⟨hc, hf⟩ := bcell hb1
    go_wp2_with fail
    refine (num_digits s (by omega) _).mono ?_
    rw [hd]
    rintro r w2 ⟨rfl, hb2'⟩
    have hb2 := up hb1 hb2'
    clear hc hf
    obtain ⟨hc, hf⟩ := bcell hb2
    go_wp2_with fail
    refine wp_region_from hb2 (by kernel_rfl) (by kernel_rfl) ?_
    repeat (go_big_quiet_step (fail))
    refine wpQuiet_nil ?_
    rintro _ ⟨x3, rfl⟩
    have hb3 := x3.property
    clear hc hf
    obtain ⟨hc, hf⟩ := bcell hb3
    go_wp2_with fail
    rw [HR.out]
    go_wp2_with fail
    refine (hasPrefix R ⟨#[46]⟩ _).mono ?_
    rw [hr]
    rintro r w4 ⟨rfl, hb4'⟩
    have hb4 := up hb3 hb4'
    clear hc hf
    obtain ⟨hc, hf⟩ := bcell hb4
    go_wp2_with fail
    rw [HS.out]
    go_wp2_with fail
    refine (num_digits S (by omega) _).mono ?_
    rw [hf0]
    rintro r w5 ⟨rfl, hb5'⟩
    have hb5 := up hb4 hb5'
    clear hc hf
    obtain ⟨hc, hf⟩ := bcell hb5
    go_wp2_with fail
    refine (num_zero _).mono ?_
    rintro r w6 ⟨rfl, hb6'⟩
    have hb6 := up hb5 hb6'
    clear hc hf
    obtain ⟨hc, hf⟩ := bcell hb6
    go_wp2
    refine bodyPost_ret (v := numRes ((0, 0), 10)) ?_ rfl ⟨rfl, ?_⟩
    · simp [numRes, results, Tryd.results25, go_sem, hc]
    · exact st1 (st1 (up (al1 _ _) hb6) _ _ _ (by omega)) _ _ _ (by omega)

set_option maxRecDepth 100000 in
theorem parse_Do (s : ByteArray) (hs : s.size ≤ 2305843009213693952) (hp : Lib.hasPrefix s.data.toList [45] = false) (d : Nat) (hd : nDig s.data.toList = d) (h1 : d ≤ s.size) (h01 : 1 ≤ d) (hz0 : ((d : Int) == 0) = false) (hz : ¬ 1 < d ∨ (1 < d ∧ (((s[0]'(by omega)).toNat : Int) == 48) = false)) (A R : ByteArray) (hA : s.extract 0 d = A) (hR : s.extract d s.size = R) (_hAs : A.size ≤ 2305843009213693952) (hRs : R.size ≤ 2305843009213693952) (hr : Lib.hasPrefix R.data.toList [46] = false) (e : Int) (he : expoN R.data.toList = (e, false)) (_he0 : -1099511627776 ≤ e) (_he1 : e ≤ 1099511627776) (w : World) (_hg : Glob w) :
    Calls Tryd.prog 25 #[.string s] w fun r w' => r = .returned (numRes ((0, 0), 10)) ∧ Below w.heap.size w w' := by
  have HA := Keep.mk hA
  have HR := Keep.mk hR
  clear hA hR
  rcases hz with hz | ⟨hz, hu⟩
  all_goals
    go_enter Tryd.func25, Tryd.ntmps25
    go_wp2_with fail
    refine (hasPrefix s ⟨#[45]⟩ _).mono ?_
    rw [hp]
    rintro r w1 ⟨rfl, hb1⟩
    obtain ⟨hc, hf⟩ := bcell hb1
    go_wp2_with fail
    refine (num_digits s (by omega) _).mono ?_
    rw [hd]
    rintro r w2 ⟨rfl, hb2'⟩
    have hb2 := up hb1 hb2'
    clear hc hf
    obtain ⟨hc, hf⟩ := bcell hb2
    go_wp2_with fail
    refine wp_region_from hb2 (by kernel_rfl) (by kernel_rfl) ?_
    repeat (go_big_quiet_step (fail))
    refine wpQuiet_nil ?_
    rintro _ ⟨x3, rfl⟩
    have hb3 := x3.property
    clear hc hf
    obtain ⟨hc, hf⟩ := bcell hb3
    go_wp2_with fail
    rw [HR.out]
    go_wp2_with fail
    refine (hasPrefix R ⟨#[46]⟩ _).mono ?_
    rw [hr]
    rintro r w4 ⟨rfl, hb4'⟩
    have hb4 := up hb3 hb4'
    clear hc hf
    obtain ⟨hc, hf⟩ := bcell hb4
    go_wp2_with fail
    rw [HA.out]
    go_wp2_with fail
    refine (num_exponent R (by omega) _).mono ?_
    rw [he]; unfold expRes
    rintro r w5 ⟨rfl, hb5'⟩
    have hb5 := up hb4 hb5'
    clear hc hf
    obtain ⟨hc, hf⟩ := bcell hb5
    go_wp2_with fail
    refine (num_zero _).mono ?_
    rintro r w6 ⟨rfl, hb6'⟩
    have hb6 := up hb5 hb6'
    clear hc hf
    obtain ⟨hc, hf⟩ := bcell hb6
    go_wp2
    refine bodyPost_ret (v := numRes ((0, 0), 10)) ?_ rfl ⟨rfl, ?_⟩
    · simp [numRes, results, Tryd.results25, go_sem, hc]
    · exact st1 (st1 (up (al1 _ _) hb6) _ _ _ (by omega)) _ _ _ (by omega)

set_option maxRecDepth 100000 in
theorem parse_Dof (s : ByteArray) (hs : s.size ≤ 2305843009213693952) (hp : Lib.hasPrefix s.data.toList [45] = false) (d : Nat) (hd : nDig s.data.toList = d) (h1 : d ≤ s.size) (h01 : 1 ≤ d) (hz0 : ((d : Int) == 0) = false) (hz : ¬ 1 < d ∨ (1 < d ∧ (((s[0]'(by omega)).toNat : Int) == 48) = false)) (A R : ByteArray) (hA : s.extract 0 d = A) (hR : s.extract d s.size = R) (_hAs : A.size ≤ 2305843009213693952) (hRs : R.size ≤ 2305843009213693952) (hr : Lib.hasPrefix R.data.toList [46] = true) (hR1 : 0 < R.size) (S : ByteArray) (hS : R.extract 1 R.size = S) (hSs : S.size ≤ 2305843009213693952) (f : Nat) (hf0 : nDig S.data.toList = f) (hff : f + 1 ≤ R.size) (hf1 : ((f : Int) == 0) = false) (A2 R2 : ByteArray) (hA2 : A ++ R.extract 1 (1 + f) = A2) (hR2 : R.extract (1 + f) R.size = R2) (_hA2s : A2.size ≤ 2305843009213693952) (hR2s : R2.size ≤ 2305843009213693952) (e : Int) (he : expoN R2.data.toList = (e, false)) (_he0 : -1099511627776 ≤ e) (_he1 : e ≤ 1099511627776) (w : World) (_hg : Glob w) :
    Calls Tryd.prog 25 #[.string s] w fun r w' => r = .returned (numRes ((0, 0), 10)) ∧ Below w.heap.size w w' := by
  have HA := Keep.mk hA
  have HR := Keep.mk hR
  clear hA hR
  have HS := Keep.mk hS
  clear hS
  have HA2 := Keep.mk hA2
  have HR2 := Keep.mk hR2
  clear hA2 hR2
  rcases hz with hz | ⟨hz, hu⟩
  all_goals
    go_enter Tryd.func25, Tryd.ntmps25
    go_wp2_with fail
    refine (hasPrefix s ⟨#[45]⟩ _).mono ?_
    rw [hp]
    rintro r w1 ⟨rfl, hb1⟩
    obtain ⟨hc, hf⟩ := bcell hb1
    go_wp2_with fail
    refine (num_digits s (by omega) _).mono ?_
    rw [hd]
    rintro r w2 ⟨rfl, hb2'⟩
    have hb2 := up hb1 hb2'
    clear hc hf
    obtain ⟨hc, hf⟩ := bcell hb2
    go_wp2_with fail
    refine wp_region_from hb2 (by kernel_rfl) (by kernel_rfl) ?_
    repeat (go_big_quiet_step (fail))
    refine wpQuiet_nil ?_
    rintro _ ⟨x3, rfl⟩
    have hb3 := x3.property
    clear hc hf
    obtain ⟨hc, hf⟩ := bcell hb3
    go_wp2_with fail
    rw [HR.out]
    go_wp2_with fail
    refine (hasPrefix R ⟨#[46]⟩ _).mono ?_
    rw [hr]
    rintro r w4 ⟨rfl, hb4'⟩
    have hb4 := up hb3 hb4'
    clear hc hf
    obtain ⟨hc, hf⟩ := bcell hb4
    go_wp2_with fail
    rw [HS.out]
    go_wp2_with fail
    refine (num_digits S (by omega) _).mono ?_
    rw [hf0]
    rintro r w5 ⟨rfl, hb5'⟩
    have hb5 := up hb4 hb5'
    clear hc hf
    obtain ⟨hc, hf⟩ := bcell hb5
    go_wp2_with fail
    refine wp_region_from hb5 (by kernel_rfl) (by kernel_rfl) ?_
    repeat (go_big_quiet_step (fail))
    refine wpQuiet_nil ?_
    rintro _ ⟨x6, rfl⟩
    have hb6 := x6.property
    clear hc hf
    obtain ⟨hc, hf⟩ := bcell hb6
    go_wp2_with fail
    rw [HA.out, HA2.out, HR2.out]
    go_wp2_with fail
    refine (num_exponent R2 (by omega) _).mono ?_
    rw [he]; unfold expRes
    rintro r w7 ⟨rfl, hb7'⟩
    have hb7 := up hb6 hb7'
    clear hc hf
    obtain ⟨hc, hf⟩ := bcell hb7
    go_wp2_with fail
    refine (num_zero _).mono ?_
    rintro r w8 ⟨rfl, hb8'⟩
    have hb8 := up hb7 hb8'
    clear hc hf
    obtain ⟨hc, hf⟩ := bcell hb8
    go_wp2
    refine bodyPost_ret (v := numRes ((0, 0), 10)) ?_ rfl ⟨rfl, ?_⟩
    · simp [numRes, results, Tryd.results25, go_sem, hc]
    · exact st1 (st1 (up (al1 _ _) hb8) _ _ _ (by omega)) _ _ _ (by omega)

set_option maxRecDepth 100000 in
theorem parse_Eo (s : ByteArray) (hs : s.size ≤ 2305843009213693952) (hp : Lib.hasPrefix s.data.toList [45] = false) (d : Nat) (hd : nDig s.data.toList = d) (h1 : d ≤ s.size) (h01 : 1 ≤ d) (hz0 : ((d : Int) == 0) = false) (hz : ¬ 1 < d ∨ (1 < d ∧ (((s[0]'(by omega)).toNat : Int) == 48) = false)) (A R : ByteArray) (hA : s.extract 0 d = A) (hR : s.extract d s.size = R) (hAs : A.size ≤ 2305843009213693952) (hRs : R.size ≤ 2305843009213693952) (hr : Lib.hasPrefix R.data.toList [46] = false) (e : Int) (he : expoN R.data.toList = (e, true)) (_he0 : -1099511627776 ≤ e) (_he1 : e ≤ 1099511627776) (L T : ByteArray) (hL : ⟨(Lib.trimLeftB A.data.toList 48).toArray⟩ = L) (hT : ⟨(Lib.trimRightB L.data.toList 48).toArray⟩ = T) (hLs : L.size ≤ A.size) (hTs : T.size ≤ L.size) (hT0 : T = ⟨#[]⟩) (w : World) (_hg : Glob w) :
    Calls Tryd.prog 25 #[.string s] w fun r w' => r = .returned (numRes ((0, 0), 0)) ∧ Below w.heap.size w w' := by
  have HA := Keep.mk hA
  have HR := Keep.mk hR
  clear hA hR
  have HL := Keep.mk hL
  have HT := Keep.mk hT
  clear hL hT
  rcases hz with hz | ⟨hz, hu⟩
  all_goals
    go_enter Tryd.func25, Tryd.ntmps25
    go_wp2_with fail
    refine (hasPrefix s ⟨#[45]⟩ _).mono ?_
    rw [hp]
    rintro r w1 ⟨rfl, hb1⟩
    obtain ⟨hc, hf⟩ := bcell hb1
    go_wp2_with fail
    refine (num_digits s (by omega) _).mono ?_
    rw [hd]
    rintro r w2 ⟨rfl, hb2'⟩
    have hb2 := up hb1 hb2'
    clear hc hf
    obtain ⟨hc, hf⟩ := bcell hb2
    go_wp2_with fail
    refine wp_region_from hb2 (by kernel_rfl) (by kernel_rfl) ?_
    repeat (go_big_quiet_step (fail))
    refine wpQuiet_nil ?_
    rintro _ ⟨x3, rfl⟩
    have hb3 := x3.property
    clear hc hf
    obtain ⟨hc, hf⟩ := bcell hb3
    go_wp2_with fail
    rw [HR.out]
    go_wp2_with fail
    refine (hasPrefix R ⟨#[46]⟩ _).mono ?_
    rw [hr]
    rintro r w4 ⟨rfl, hb4'⟩
    have hb4 := up hb3 hb4'
    clear hc hf
    obtain ⟨hc, hf⟩ := bcell hb4
    go_wp2_with fail
    rw [HA.out]
    go_wp2_with fail
    refine (num_exponent R (by omega) _).mono ?_
    rw [he]; unfold expRes
    rintro r w5 ⟨rfl, hb5'⟩
    have hb5 := up hb4 hb5'
    clear hc hf
    obtain ⟨hc, hf⟩ := bcell hb5
    go_wp2_with fail
    refine (trimLeft A _).mono ?_
    rw [HL.out]
    rintro r w6 ⟨rfl, hb6'⟩
    have hb6 := up hb5 hb6'
    clear hc hf
    obtain ⟨hc, hf⟩ := bcell hb6
    go_wp2_with fail
    refine (trimRight L (by omega) _).mono ?_
    rw [HT.out]
    rintro r w7 ⟨rfl, hb7'⟩
    have hb7 := up hb6 hb7'
    clear hc hf
    obtain ⟨hc, hf⟩ := bcell hb7
    subst hT0
    go_wp2_with fail
    refine (num_zero _).mono ?_
    rintro r w8 ⟨rfl, hb8'⟩
    have hb8 := up hb7 hb8'
    clear hc hf
    obtain ⟨hc, hf⟩ := bcell hb8
    go_wp2
    refine bodyPost_ret (v := numRes ((0, 0), 0)) ?_ rfl ⟨rfl, ?_⟩
    · simp [numRes, results, Tryd.results25, go_sem, hc]
    · exact st1 (st1 (up (al1 _ _) hb8) _ _ _ (by omega)) _ _ _ (by omega)

set_option maxRecDepth 100000 in
theorem parse_Eof (s : ByteArray) (hs : s.size ≤ 2305843009213693952) (hp : Lib.hasPrefix s.data.toList [45] = false) (d : Nat) (hd : nDig s.data.toList = d) (h1 : d ≤ s.size) (h01 : 1 ≤ d) (hz0 : ((d : Int) == 0) = false) (hz : ¬ 1 < d ∨ (1 < d ∧ (((s[0]'(by omega)).toNat : Int) == 48) = false)) (A R : ByteArray) (hA : s.extract 0 d = A) (hR : s.extract d s.size = R) (_hAs : A.size ≤ 2305843009213693952) (hRs : R.size ≤ 2305843009213693952) (hr : Lib.hasPrefix R.data.toList [46] = true) (hR1 : 0 < R.size) (S : ByteArray) (hS : R.extract 1 R.size = S) (hSs : S.size ≤ 2305843009213693952) (f : Nat) (hf0 : nDig S.data.toList = f) (hff : f + 1 ≤ R.size) (hf1 : ((f : Int) == 0) = false) (A2 R2 : ByteArray) (hA2 : A ++ R.extract 1 (1 + f) = A2) (hR2 : R.extract (1 + f) R.size = R2) (hA2s : A2.size ≤ 2305843009213693952) (hR2s : R2.size ≤ 2305843009213693952) (e : Int) (he : expoN R2.data.toList = (e, true)) (_he0 : -1099511627776 ≤ e) (_he1 : e ≤ 1099511627776) (L T : ByteArray) (hL : ⟨(Lib.trimLeftB A2.data.toList 48).toArray⟩ = L) (hT : ⟨(Lib.trimRightB L.data.toList 48).toArray⟩ = T) (hLs : L.size ≤ A2.size) (hTs : T.size ≤ L.size) (hT0 : T = ⟨#[]⟩) (w : World) (_hg : Glob w) :
    Calls Tryd.prog 25 #[.string s] w fun r w' => r = .returned (numRes ((0, 0), 0)) ∧ Below w.heap.size w w' := by
  have HA := Keep.mk hA
  have HR := Keep.mk hR
  clear hA hR
  have HS := Keep.mk hS
  clear hS
  have HA2 := Keep.mk hA2
  have HR2 := Keep.mk hR2
  clear hA2 hR2
  have HL := Keep.mk hL
  have HT := Keep.mk hT
  clear hL hT
  rcases hz with hz | ⟨hz, hu⟩
  all_goals
    go_enter Tryd.func25, Tryd.ntmps25
    go_wp2_with fail
    refine (hasPrefix s ⟨#[45]⟩ _).mono ?_
    rw [hp]
    rintro r w1 ⟨rfl, hb1⟩
    obtain ⟨hc, hf⟩ := bcell hb1
    go_wp2_with fail
    refine (num_digits s (by omega) _).mono ?_
    rw [hd]
    rintro r w2 ⟨rfl, hb2'⟩
    have hb2 := up hb1 hb2'
    clear hc hf
    obtain ⟨hc, hf⟩ := bcell hb2
    go_wp2_with fail
    refine wp_region_from hb2 (by kernel_rfl) (by kernel_rfl) ?_
    repeat (go_big_quiet_step (fail))
    refine wpQuiet_nil ?_
    rintro _ ⟨x3, rfl⟩
    have hb3 := x3.property
    clear hc hf
    obtain ⟨hc, hf⟩ := bcell hb3
    go_wp2_with fail
    rw [HR.out]
    go_wp2_with fail
    refine (hasPrefix R ⟨#[46]⟩ _).mono ?_
    rw [hr]
    rintro r w4 ⟨rfl, hb4'⟩
    have hb4 := up hb3 hb4'
    clear hc hf
    obtain ⟨hc, hf⟩ := bcell hb4
    go_wp2_with fail
    rw [HS.out]
    go_wp2_with fail
    refine (num_digits S (by omega) _).mono ?_
    rw [hf0]
    rintro r w5 ⟨rfl, hb5'⟩
    have hb5 := up hb4 hb5'
    clear hc hf
    obtain ⟨hc, hf⟩ := bcell hb5
    go_wp2_with fail
    refine wp_region_from hb5 (by kernel_rfl) (by kernel_rfl) ?_
    repeat (go_big_quiet_step (fail))
    refine wpQuiet_nil ?_
    rintro _ ⟨x6, rfl⟩
    have hb6 := x6.property
    clear hc hf
    obtain ⟨hc, hf⟩ := bcell hb6
    go_wp2_with fail
    rw [HA.out, HA2.out, HR2.out]
    go_wp2_with fail
    refine (num_exponent R2 (by omega) _).mono ?_
    rw [he]; unfold expRes
    rintro r w7 ⟨rfl, hb7'⟩
    have hb7 := up hb6 hb7'
    clear hc hf
    obtain ⟨hc, hf⟩ := bcell hb7
    go_wp2_with fail
    refine (trimLeft A2 _).mono ?_
    rw [HL.out]
    rintro r w8 ⟨rfl, hb8'⟩
    have hb8 := up hb7 hb8'
    clear hc hf
    obtain ⟨hc, hf⟩ := bcell hb8
    go_wp2_with fail
    refine (trimRight L (by omega) _).mono ?_
    rw [HT.out]
    rintro r w9 ⟨rfl, hb9'⟩
    have hb9 := up hb8 hb9'
    clear hc hf
    obtain ⟨hc, hf⟩ := bcell hb9
    subst hT0
    go_wp2_with fail
    refine (num_zero _).mono ?_
    rintro r w10 ⟨rfl, hb10'⟩
    have hb10 := up hb9 hb10'
    clear hc hf
    obtain ⟨hc, hf⟩ := bcell hb10
    go_wp2
    refine bodyPost_ret (v := numRes ((0, 0), 0)) ?_ rfl ⟨rfl, ?_⟩
    · simp [numRes, results, Tryd.results25, go_sem, hc]
    · exact st1 (st1 (up (al1 _ _) hb10) _ _ _ (by omega)) _ _ _ (by omega)

set_option maxRecDepth 100000 in
theorem parse_Fo (s : ByteArray) (hs : s.size ≤ 2305843009213693952) (hp : Lib.hasPrefix s.data.toList [45] = false) (d : Nat) (hd : nDig s.data.toList = d) (h1 : d ≤ s.size) (h01 : 1 ≤ d) (hz0 : ((d : Int) == 0) = false) (hz : ¬ 1 < d ∨ (1 < d ∧ (((s[0]'(by omega)).toNat : Int) == 48) = false)) (A R : ByteArray) (hA : s.extract 0 d = A) (hR : s.extract d s.size = R) (hAs : A.size ≤ 2305843009213693952) (hRs : R.size ≤ 2305843009213693952) (hr : Lib.hasPrefix R.data.toList [46] = false) (e : Int) (he : expoN R.data.toList = (e, true)) (_he0 : -1099511627776 ≤ e) (_he1 : e ≤ 1099511627776) (L T : ByteArray) (hL : ⟨(Lib.trimLeftB A.data.toList 48).toArray⟩ = L) (hT : ⟨(Lib.trimRightB L.data.toList 48).toArray⟩ = T) (hLs : L.size ≤ A.size) (_hTs : T.size ≤ L.size) (hTe : T.toList.isEmpty = false) (hT1 : 18 < T.size) (w : World) (_hg : Glob w) :
    Calls Tryd.prog 25 #[.string s] w fun r w' => r = .returned (numRes ((0, 0), 11)) ∧ Below w.heap.size w w' := by
  have HA := Keep.mk hA
  have HR := Keep.mk hR
  clear hA hR
  have HL := Keep.mk hL
  have HT := Keep.mk hT
  clear hL hT
  rcases hz with hz | ⟨hz, hu⟩
  all_goals
    go_enter Tryd.func25, Tryd.ntmps25
    go_wp2_with fail
    refine (hasPrefix s ⟨#[45]⟩ _).mono ?_
    rw [hp]
    rintro r w1 ⟨rfl, hb1⟩
    obtain ⟨hc, hf⟩ := bcell hb1
    go_wp2_with fail
    refine (num_digits s (by omega) _).mono ?_
    rw [hd]
    rintro r w2 ⟨rfl, hb2'⟩
    have hb2 := up hb1 hb2'
    clear hc hf
    obtain ⟨hc, hf⟩ := bcell hb2
    go_wp2_with fail
    refine wp_region_from hb2 (by kernel_rfl) (by kernel_rfl) ?_
    repeat (go_big_quiet_step (fail))
    refine wpQuiet_nil ?_
    rintro _ ⟨x3, rfl⟩
    have hb3 := x3.property
    clear hc hf
    obtain ⟨hc, hf⟩ := bcell hb3
    go_wp2_with fail
    rw [HR.out]
    go_wp2_with fail
    refine (hasPrefix R ⟨#[46]⟩ _).mono ?_
    rw [hr]
    rintro r w4 ⟨rfl, hb4'⟩
    have hb4 := up hb3 hb4'
    clear hc hf
    obtain ⟨hc, hf⟩ := bcell hb4
    go_wp2_with fail
    rw [HA.out]
    go_wp2_with fail
    refine (num_exponent R (by omega) _).mono ?_
    rw [he]; unfold expRes
    rintro r w5 ⟨rfl, hb5'⟩
    have hb5 := up hb4 hb5'
    clear hc hf
    obtain ⟨hc, hf⟩ := bcell hb5
    go_wp2_with fail
    refine (trimLeft A _).mono ?_
    rw [HL.out]
    rintro r w6 ⟨rfl, hb6'⟩
    have hb6 := up hb5 hb6'
    clear hc hf
    obtain ⟨hc, hf⟩ := bcell hb6
    go_wp2_with fail
    refine (trimRight L (by omega) _).mono ?_
    rw [HT.out]
    rintro r w7 ⟨rfl, hb7'⟩
    have hb7 := up hb6 hb7'
    clear hc hf
    obtain ⟨hc, hf⟩ := bcell hb7
    go_wp2_with fail
    refine (num_zero _).mono ?_
    rintro r w8 ⟨rfl, hb8'⟩
    have hb8 := up hb7 hb8'
    clear hc hf
    obtain ⟨hc, hf⟩ := bcell hb8
    go_wp2
    refine bodyPost_ret (v := numRes ((0, 0), 11)) ?_ rfl ⟨rfl, ?_⟩
    · simp [numRes, results, Tryd.results25, go_sem, hc]
    · exact st1 (st1 (up (al1 _ _) hb8) _ _ _ (by omega)) _ _ _ (by omega)

set_option maxRecDepth 100000 in
theorem parse_Fof (s : ByteArray) (hs : s.size ≤ 2305843009213693952) (hp : Lib.hasPrefix s.data.toList [45] = false) (d : Nat) (hd : nDig s.data.toList = d) (h1 : d ≤ s.size) (h01 : 1 ≤ d) (hz0 : ((d : Int) == 0) = false) (hz : ¬ 1 < d ∨ (1 < d ∧ (((s[0]'(by omega)).toNat : Int) == 48) = false)) (A R : ByteArray) (hA : s.extract 0 d = A) (hR : s.extract d s.size = R) (_hAs : A.size ≤ 2305843009213693952) (hRs : R.size ≤ 2305843009213693952) (hr : Lib.hasPrefix R.data.toList [46] = true) (hR1 : 0 < R.size) (S : ByteArray) (hS : R.extract 1 R.size = S) (hSs : S.size ≤ 2305843009213693952) (f : Nat) (hf0 : nDig S.data.toList = f) (hff : f + 1 ≤ R.size) (hf1 : ((f : Int) == 0) = false) (A2 R2 : ByteArray) (hA2 : A ++ R.extract 1 (1 + f) = A2) (hR2 : R.extract (1 + f) R.size = R2) (hA2s : A2.size ≤ 2305843009213693952) (hR2s : R2.size ≤ 2305843009213693952) (e : Int) (he : expoN R2.data.toList = (e, true)) (_he0 : -1099511627776 ≤ e) (_he1 : e ≤ 1099511627776) (L T : ByteArray) (hL : ⟨(Lib.trimLeftB A2.data.toList 48).toArray⟩ = L) (hT : ⟨(Lib.trimRightB L.data.toList 48).toArray⟩ = T) (hLs : L.size ≤ A2.size) (_hTs : T.size ≤ L.size) (hTe : T.toList.isEmpty = false) (hT1 : 18 < T.size) (w : World) (_hg : Glob w) :
    Calls Tryd.prog 25 #[.string s] w fun r w' => r = .returned (numRes ((0, 0), 11)) ∧ Below w.heap.size w w' := by
  have HA := Keep.mk hA
  have HR := Keep.mk hR
  clear hA hR
  have HS := Keep.mk hS
  clear hS
  have HA2 := Keep.mk hA2
  have HR2 := Keep.mk hR2
  clear hA2 hR2
  have HL := Keep.mk hL
  have HT := Keep.mk hT
  clear hL hT
  rcases hz with hz | ⟨hz, hu⟩
  all_goals
    go_enter Tryd.func25, Tryd.ntmps25
    go_wp2_with fail
    refine (hasPrefix s ⟨#[45]⟩ _).mono ?_
    rw [hp]
    rintro r w1 ⟨rfl, hb1⟩
    obtain ⟨hc, hf⟩ := bcell hb1
    go_wp2_with fail
    refine (num_digits s (by omega) _).mono ?_
    rw [hd]
    rintro r w2 ⟨rfl, hb2'⟩
    have hb2 := up hb1 hb2'
    clear hc hf
    obtain ⟨hc, hf⟩ := bcell hb2
    go_wp2_with fail
    refine wp_region_from hb2 (by kernel_rfl) (by kernel_rfl) ?_
    repeat (go_big_quiet_step (fail))
    refine wpQuiet_nil ?_
    rintro _ ⟨x3, rfl⟩
    have hb3 := x3.property
    clear hc hf
    obtain ⟨hc, hf⟩ := bcell hb3
    go_wp2_with fail
    rw [HR.out]
    go_wp2_with fail
    refine (hasPrefix R ⟨#[46]⟩ _).mono ?_
    rw [hr]
    rintro r w4 ⟨rfl, hb4'⟩
    have hb4 := up hb3 hb4'
    clear hc hf
    obtain ⟨hc, hf⟩ := bcell hb4
    go_wp2_with fail
    rw [HS.out]
    go_wp2_with fail
    refine (num_digits S (by omega) _).mono ?_
    rw [hf0]
    rintro r w5 ⟨rfl, hb5'⟩
    have hb5 := up hb4 hb5'
    clear hc hf
    obtain ⟨hc, hf⟩ := bcell hb5
    go_wp2_with fail
    refine wp_region_from hb5 (by kernel_rfl) (by kernel_rfl) ?_
    repeat (go_big_quiet_step (fail))
    refine wpQuiet_nil ?_
    rintro _ ⟨x6, rfl⟩
    have hb6 := x6.property
    clear hc hf
    obtain ⟨hc, hf⟩ := bcell hb6
    go_wp2_with fail
    rw [HA.out, HA2.out, HR2.out]
    go_wp2_with fail
    refine (num_exponent R2 (by omega) _).mono ?_
    rw [he]; unfold expRes
    rintro r w7 ⟨rfl, hb7'⟩
    have hb7 := up hb6 hb7'
    clear hc hf
    obtain ⟨hc, hf⟩ := bcell hb7
    go_wp2_with fail
    refine (trimLeft A2 _).mono ?_
    rw [HL.out]
    rintro r w8 ⟨rfl, hb8'⟩
    have hb8 := up hb7 hb8'
    clear hc hf
    obtain ⟨hc, hf⟩ := bcell hb8
    go_wp2_with fail
    refine (trimRight L (by omega) _).mono ?_
    rw [HT.out]
    rintro r w9 ⟨rfl, hb9'⟩
    have hb9 := up hb8 hb9'
    clear hc hf
    obtain ⟨hc, hf⟩ := bcell hb9
    go_wp2_with fail
    refine (num_zero _).mono ?_
    rintro r w10 ⟨rfl, hb10'⟩
    have hb10 := up hb9 hb10'
    clear hc hf
    obtain ⟨hc, hf⟩ := bcell hb10
    go_wp2
    refine bodyPost_ret (v := numRes ((0, 0), 11)) ?_ rfl ⟨rfl, ?_⟩
    · simp [numRes, results, Tryd.results25, go_sem, hc]
    · exact st1 (st1 (up (al1 _ _) hb10) _ _ _ (by omega)) _ _ _ (by omega)

set_option maxRecDepth 100000 in
theorem parse_Go (s : ByteArray) (hs : s.size ≤ 2305843009213693952) (hp : Lib.hasPrefix s.data.toList [45] = false) (d : Nat) (hd : nDig s.data.toList = d) (h1 : d ≤ s.size) (h01 : 1 ≤ d) (hz0 : ((d : Int) == 0) = false) (hz : ¬ 1 < d ∨ (1 < d ∧ (((s[0]'(by omega)).toNat : Int) == 48) = false)) (A R : ByteArray) (hA : s.extract 0 d = A) (hR : s.extract d s.size = R) (hAs : A.size ≤ 2305843009213693952) (hRs : R.size ≤ 2305843009213693952) (hr : Lib.hasPrefix R.data.toList [46] = false) (e : Int) (he : expoN R.data.toList = (e, true)) (he0 : -1099511627776 ≤ e) (he1 : e ≤ 1099511627776) (L T : ByteArray) (hL : ⟨(Lib.trimLeftB A.data.toList 48).toArray⟩ = L) (hT : ⟨(Lib.trimRightB L.data.toList 48).toArray⟩ = T) (hLs : L.size ≤ A.size) (hTs : T.size ≤ L.size) (hTe : T.toList.isEmpty = false) (hT0 : 0 < T.size) (hT1 : T.size ≤ 18) (HD : Keep (∀ k (hk : k < T.size), 48 ≤ T[k].toNat ∧ T[k].toNat ≤ 57)) (w : World) (hg : Glob w) :
    Calls Tryd.prog 25 #[.string s] w fun r w' => r = .returned (numRes (norm false (val (dgs T.data.toList)) (e + L.size - T.size))) ∧ Below w.heap.size w w' := by
  have HA := Keep.mk hA
  have HR := Keep.mk hR
  clear hA hR
  have HL := Keep.mk hL
  have HT := Keep.mk hT
  clear hL hT
  rcases hz with hz | ⟨hz, hu⟩
  all_goals
    go_enter Tryd.func25, Tryd.ntmps25
    go_wp2_with fail
    refine (hasPrefix s ⟨#[45]⟩ _).mono ?_
    rw [hp]
    rintro r w1 ⟨rfl, hb1⟩
    obtain ⟨hc, hf⟩ := bcell hb1
    go_wp2_with fail
    refine (num_digits s (by omega) _).mono ?_
    rw [hd]
    rintro r w2 ⟨rfl, hb2'⟩
    have hb2 := up hb1 hb2'
    clear hc hf
    obtain ⟨hc, hf⟩ := bcell hb2
    go_wp2_with fail
    refine wp_region_from hb2 (by kernel_rfl) (by kernel_rfl) ?_
    repeat (go_big_quiet_step (fail))
    refine wpQuiet_nil ?_
    rintro _ ⟨x3, rfl⟩
    have hb3 := x3.property
    clear hc hf
    obtain ⟨hc, hf⟩ := bcell hb3
    go_wp2_with fail
    rw [HR.out]
    go_wp2_with fail
    refine (hasPrefix R ⟨#[46]⟩ _).mono ?_
    rw [hr]
    rintro r w4 ⟨rfl, hb4'⟩
    have hb4 := up hb3 hb4'
    clear hc hf
    obtain ⟨hc, hf⟩ := bcell hb4
    go_wp2_with fail
    rw [HA.out]
    go_wp2_with fail
    refine (num_exponent R (by omega) _).mono ?_
    rw [he]; unfold expRes
    rintro r w5 ⟨rfl, hb5'⟩
    have hb5 := up hb4 hb5'
    clear hc hf
    obtain ⟨hc, hf⟩ := bcell hb5
    go_wp2_with fail
    refine (trimLeft A _).mono ?_
    rw [HL.out]
    rintro r w6 ⟨rfl, hb6'⟩
    have hb6 := up hb5 hb6'
    clear hc hf
    obtain ⟨hc, hf⟩ := bcell hb6
    go_wp2_with fail
    refine (trimRight L (by omega) _).mono ?_
    rw [HT.out]
    rintro r w7 ⟨rfl, hb7'⟩
    have hb7 := up hb6 hb7'
    clear hc hf
    obtain ⟨hc, hf⟩ := bcell hb7
    go_wp2_with fail
    go_loop [12, 78] (fun m i => ∃ k : Nat, k ≤ T.size ∧ i = .int .i64 k ∧ m = .int .u64 (val (dgs (T.data.toList.take k)) : Nat)) (fun _ i => T.size - (intOf i).toNat)
    case atStart => exact ⟨0, Nat.zero_le _, rfl, rfl⟩
    case round =>
      obtain ⟨k, hk, rfl, rfl⟩ := hrel
      by_cases hlt : k < T.size
      · obtain ⟨hv, hv1⟩ := val_take T HD.out k hlt hT1
        have hdk := HD.out k hlt
        obtain ⟨hd1, hd2⟩ := hdk
        have HV := Keep.mk hv
        clear hv
        generalize val (dgs (T.data.toList.take k)) = v at *
        go_wp2
        refine ⟨⟨k + 1, by omega, by go_num, ?_⟩, by simp [intOf]; omega⟩
        rw [HV.out]
        congr 1; omega
      · have hk2 : k = T.size := by omega
        have HS := Keep.mk (show T.data.toList.take k = T.data.toList by rw [List.take_of_length_le]; simp; omega)
        clear hk2
        rw [HS.out]
        have HV := Keep.mk (val_18 T HD.out hT1)
        generalize hvv : val (dgs T.data.toList) = v
        rw [hvv] at HV
        obtain ⟨hv1⟩ := HV
        have HVV := Keep.mk hvv
        clear hvv
        go_wp2_with fail
        refine (num_made false 0 v (e + L.size - T.size) (by omega) (by omega) (by omega) (by omega) (by omega) (by omega) _ (hg.below (up (al1 _ _) hb7))).mono ?_
        rw [show wide 0 (v : Int) = v by unfold wide; omega]
        rintro r w8 ⟨rfl, hb8'⟩
        have hb8 := up hb7 hb8'
        clear hc hf
        obtain ⟨hc, hf⟩ := bcell hb8
        generalize hres : norm false v (e + L.size - T.size) = res
        have HRES := Keep.mk hres
        clear hres
        unfold numRes
        go_wp2
        refine bodyPost_ret (v := numRes res) ?_ rfl ⟨num_res (by rw [HVV.out, HRES.out]), ?_⟩
        · simp [numRes, results, Tryd.results25, go_sem, hc]
        · exact st1 (st1 (up (al1 _ _) hb8) _ _ _ (by omega)) _ _ _ (by omega)

set_option maxRecDepth 100000 in
theorem parse_Gof (s : ByteArray) (hs : s.size ≤ 2305843009213693952) (hp : Lib.hasPrefix s.data.toList [45] = false) (d : Nat) (hd : nDig s.data.toList = d) (h1 : d ≤ s.size) (h01 : 1 ≤ d) (hz0 : ((d : Int) == 0) = false) (hz : ¬ 1 < d ∨ (1 < d ∧ (((s[0]'(by omega)).toNat : Int) == 48) = false)) (A R : ByteArray) (hA : s.extract 0 d = A) (hR : s.extract d s.size = R) (_hAs : A.size ≤ 2305843009213693952) (hRs : R.size ≤ 2305843009213693952) (hr : Lib.hasPrefix R.data.toList [46] = true) (hR1 : 0 < R.size) (S : ByteArray) (hS : R.extract 1 R.size = S) (hSs : S.size ≤ 2305843009213693952) (f : Nat) (hf0 : nDig S.data.toList = f) (hff : f + 1 ≤ R.size) (hf1 : ((f : Int) == 0) = false) (A2 R2 : ByteArray) (hA2 : A ++ R.extract 1 (1 + f) = A2) (hR2 : R.extract (1 + f) R.size = R2) (hA2s : A2.size ≤ 2305843009213693952) (hR2s : R2.size ≤ 2305843009213693952) (e : Int) (he : expoN R2.data.toList = (e, true)) (he0 : -1099511627776 ≤ e) (he1 : e ≤ 1099511627776) (L T : ByteArray) (hL : ⟨(Lib.trimLeftB A2.data.toList 48).toArray⟩ = L) (hT : ⟨(Lib.trimRightB L.data.toList 48).toArray⟩ = T) (hLs : L.size ≤ A2.size) (hTs : T.size ≤ L.size) (hTe : T.toList.isEmpty = false) (hT0 : 0 < T.size) (hT1 : T.size ≤ 18) (HD : Keep (∀ k (hk : k < T.size), 48 ≤ T[k].toNat ∧ T[k].toNat ≤ 57)) (w : World) (hg : Glob w) :
    Calls Tryd.prog 25 #[.string s] w fun r w' => r = .returned (numRes (norm false (val (dgs T.data.toList)) (e - f + L.size - T.size))) ∧ Below w.heap.size w w' := by
  have HA := Keep.mk hA
  have HR := Keep.mk hR
  clear hA hR
  have HS := Keep.mk hS
  clear hS
  have HA2 := Keep.mk hA2
  have HR2 := Keep.mk hR2
  clear hA2 hR2
  have HL := Keep.mk hL
  have HT := Keep.mk hT
  clear hL hT
  rcases hz with hz | ⟨hz, hu⟩
  all_goals
    go_enter Tryd.func25, Tryd.ntmps25
    go_wp2_with fail
    refine (hasPrefix s ⟨#[45]⟩ _).mono ?_
    rw [hp]
    rintro r w1 ⟨rfl, hb1⟩
    obtain ⟨hc, hf⟩ := bcell hb1
    go_wp2_with fail
    refine (num_digits s (by omega) _).mono ?_
    rw [hd]
    rintro r w2 ⟨rfl, hb2'⟩
    have hb2 := up hb1 hb2'
    clear hc hf
    obtain ⟨hc, hf⟩ := bcell hb2
    go_wp2_with fail
    refine wp_region_from hb2 (by kernel_rfl) (by kernel_rfl) ?_
    repeat (go_big_quiet_step (fail))
    refine wpQuiet_nil ?_
    rintro _ ⟨x3, rfl⟩
    have hb3 := x3.property
    clear hc hf
    obtain ⟨hc, hf⟩ := bcell hb3
    go_wp2_with fail
    rw [HR.out]
    go_wp2_with fail
    refine (hasPrefix R ⟨#[46]⟩ _).mono ?_
    rw [hr]
    rintro r w4 ⟨rfl, hb4'⟩
    have hb4 := up hb3 hb4'
    clear hc hf
    obtain ⟨hc, hf⟩ := bcell hb4
    go_wp2_with fail
    rw [HS.out]
    go_wp2_with fail
    refine (num_digits S (by omega) _).mono ?_
    rw [hf0]
    rintro r w5 ⟨rfl, hb5'⟩
    have hb5 := up hb4 hb5'
    clear hc hf
    obtain ⟨hc, hf⟩ := bcell hb5
    go_wp2_with fail
    refine wp_region_from hb5 (by kernel_rfl) (by kernel_rfl) ?_
    repeat (go_big_quiet_step (fail))
    refine wpQuiet_nil ?_
    rintro _ ⟨x6, rfl⟩
    have hb6 := x6.property
    clear hc hf
    obtain ⟨hc, hf⟩ := bcell hb6
    go_wp2_with fail
    rw [HA.out, HA2.out, HR2.out]
    go_wp2_with fail
    refine (num_exponent R2 (by omega) _).mono ?_
    rw [he]; unfold expRes
    rintro r w7 ⟨rfl, hb7'⟩
    have hb7 := up hb6 hb7'
    clear hc hf
    obtain ⟨hc, hf⟩ := bcell hb7
    go_wp2_with fail
    refine (trimLeft A2 _).mono ?_
    rw [HL.out]
    rintro r w8 ⟨rfl, hb8'⟩
    have hb8 := up hb7 hb8'
    clear hc hf
    obtain ⟨hc, hf⟩ := bcell hb8
    go_wp2_with fail
    refine (trimRight L (by omega) _).mono ?_
    rw [HT.out]
    rintro r w9 ⟨rfl, hb9'⟩
    have hb9 := up hb8 hb9'
    clear hc hf
    obtain ⟨hc, hf⟩ := bcell hb9
    go_wp2_with fail
    go_loop [12, 78] (fun m i => ∃ k : Nat, k ≤ T.size ∧ i = .int .i64 k ∧ m = .int .u64 (val (dgs (T.data.toList.take k)) : Nat)) (fun _ i => T.size - (intOf i).toNat)
    case atStart => exact ⟨0, Nat.zero_le _, rfl, rfl⟩
    case round =>
      obtain ⟨k, hk, rfl, rfl⟩ := hrel
      by_cases hlt : k < T.size
      · obtain ⟨hv, hv1⟩ := val_take T HD.out k hlt hT1
        have hdk := HD.out k hlt
        obtain ⟨hd1, hd2⟩ := hdk
        have HV := Keep.mk hv
        clear hv
        generalize val (dgs (T.data.toList.take k)) = v at *
        go_wp2
        refine ⟨⟨k + 1, by omega, by go_num, ?_⟩, by simp [intOf]; omega⟩
        rw [HV.out]
        congr 1; omega
      · have hk2 : k = T.size := by omega
        have HS := Keep.mk (show T.data.toList.take k = T.data.toList by rw [List.take_of_length_le]; simp; omega)
        clear hk2
        rw [HS.out]
        have HV := Keep.mk (val_18 T HD.out hT1)
        generalize hvv : val (dgs T.data.toList) = v
        rw [hvv] at HV
        obtain ⟨hv1⟩ := HV
        have HVV := Keep.mk hvv
        clear hvv
        go_wp2_with fail
        refine (num_made false 0 v (e - f + L.size - T.size) (by omega) (by omega) (by omega) (by omega) (by omega) (by omega) _ (hg.below (up (al1 _ _) hb9))).mono ?_
        rw [show wide 0 (v : Int) = v by unfold wide; omega]
        rintro r w10 ⟨rfl, hb10'⟩
        have hb10 := up hb9 hb10'
        clear hc hf
        obtain ⟨hc, hf⟩ := bcell hb10
        generalize hres : norm false v (e - f + L.size - T.size) = res
        have HRES := Keep.mk hres
        clear hres
        unfold numRes
        go_wp2
        refine bodyPost_ret (v := numRes res) ?_ rfl ⟨num_res (by rw [HVV.out, HRES.out]), ?_⟩
        · simp [numRes, results, Tryd.results25, go_sem, hc]
        · exact st1 (st1 (up (al1 _ _) hb10) _ _ _ (by omega)) _ _ _ (by omega)

set_option maxRecDepth 100000 in
theorem parse_An (s : ByteArray) (hs : s.size ≤ 2305843009213693952) (U : ByteArray) (hU : s.extract 1 s.size = U) (hs1 : 0 < s.size) (hus : U.size ≤ s.size) (hp : Lib.hasPrefix s.data.toList [45] = true) (d : Nat) (hd : nDig U.data.toList = d) (hz0 : ((d : Int) == 0) = true) (w : World) (_hg : Glob w) :
    Calls Tryd.prog 25 #[.string s] w fun r w' => r = .returned (numRes ((0, 0), 10)) ∧ Below w.heap.size w w' := by
  have HU := Keep.mk hU
  clear hU
  go_enter Tryd.func25, Tryd.ntmps25
  go_wp2_with fail
  refine (hasPrefix s ⟨#[45]⟩ _).mono ?_
  rw [hp]
  rintro r w1 ⟨rfl, hb1⟩
  obtain ⟨hc, hf⟩ := bcell hb1
  go_wp2_with fail
  rw [HU.out]
  go_wp2_with fail
  refine (num_digits U (by omega) _).mono ?_
  rw [hd]
  rintro r w2 ⟨rfl, hb2'⟩
  have hb2 := up hb1 hb2'
  clear hc hf
  obtain ⟨hc, hf⟩ := bcell hb2
  go_wp2_with fail
  refine (num_zero _).mono ?_
  rintro r w3 ⟨rfl, hb3'⟩
  have hb3 := up hb2 hb3'
  clear hc hf
  obtain ⟨hc, hf⟩ := bcell hb3
  go_wp2
  refine bodyPost_ret (v := numRes ((0, 0), 10)) ?_ rfl ⟨rfl, ?_⟩
  · simp [numRes, results, Tryd.results25, go_sem, hc]
  · exact st1 (st1 (up (al1 _ _) hb3) _ _ _ (by omega)) _ _ _ (by omega)

set_option maxRecDepth 100000 in
theorem parse_Bn (s : ByteArray) (hs : s.size ≤ 2305843009213693952) (U : ByteArray) (hU : s.extract 1 s.size = U) (hs1 : 0 < s.size) (hus : U.size ≤ s.size) (hp : Lib.hasPrefix s.data.toList [45] = true) (d : Nat) (hd : nDig U.data.toList = d) (h1 : d ≤ U.size) (hz0 : ((d : Int) == 0) = false) (hz : 1 < d) (hu : (((U[0]'(by omega)).toNat : Int) == 48) = true) (w : World) (_hg : Glob w) :
    Calls Tryd.prog 25 #[.string s] w fun r w' => r = .returned (numRes ((0, 0), 10)) ∧ Below w.heap.size w w' := by
  have HU := Keep.mk hU
  clear hU
  go_enter Tryd.func25, Tryd.ntmps25
  go_wp2_with fail
  refine (hasPrefix s ⟨#[45]⟩ _).mono ?_
  rw [hp]
  rintro r w1 ⟨rfl, hb1⟩
  obtain ⟨hc, hf⟩ := bcell hb1
  go_wp2_with fail
  rw [HU.out]
  go_wp2_with fail
  refine (num_digits U (by omega) _).mono ?_
  rw [hd]
  rintro r w2 ⟨rfl, hb2'⟩
  have hb2 := up hb1 hb2'
  clear hc hf
  obtain ⟨hc, hf⟩ := bcell hb2
  go_wp2_with fail
  refine (num_zero _).mono ?_
  rintro r w3 ⟨rfl, hb3'⟩
  have hb3 := up hb2 hb3'
  clear hc hf
  obtain ⟨hc, hf⟩ := bcell hb3
  go_wp2
  refine bodyPost_ret (v := numRes ((0, 0), 10)) ?_ rfl ⟨rfl, ?_⟩
  · simp [numRes, results, Tryd.results25, go_sem, hc]
  · exact st1 (st1 (up (al1 _ _) hb3) _ _ _ (by omega)) _ _ _ (by omega)

set_option maxRecDepth 100000 in
theorem parse_Cn (s : ByteArray) (hs : s.size ≤ 2305843009213693952) (U : ByteArray) (hU : s.extract 1 s.size = U) (hs1 : 0 < s.size) (hus : U.size ≤ s.size) (hp : Lib.hasPrefix s.data.toList [45] = true) (d : Nat) (hd : nDig U.data.toList = d) (h1 : d ≤ U.size) (h01 : 1 ≤ d) (hz0 : ((d : Int) == 0) = false) (hz : ¬ 1 < d ∨ (1 < d ∧ (((U[0]'(by omega)).toNat : Int) == 48) = false)) (A R : ByteArray) (hA : U.extract 0 d = A) (hR : U.extract d U.size = R) (_hAs : A.size ≤ 2305843009213693952) (hRs : R.size ≤ 2305843009213693952) (hr : Lib.hasPrefix R.data.toList [46] = true) (hR1 : 0 < R.size) (S : ByteArray) (hS : R.extract 1 R.size = S) (hSs : S.size ≤ 2305843009213693952) (f : Nat) (hf0 : nDig S.data.toList = f) (_hff : f + 1 ≤ R.size) (hf1 : ((f : Int) == 0) = true) (w : World) (_hg : Glob w) :
    Calls Tryd.prog 25 #[.string s] w fun r w' => r = .returned (numRes ((0, 0), 10)) ∧ Below w.heap.size w w' := by
  have HU := Keep.mk hU
  clear hU
  have HA := Keep.mk hA
  have HR := Keep.mk hR
  clear hA hR
  have HS := Keep.mk hS
  clear hS
  rcases hz with hz | ⟨hz, hu⟩
  all_goals
    go_enter Tryd.func25, Tryd.ntmps25
    go_wp2_with fail
    refine (hasPrefix s ⟨#[45]⟩ _).mono ?_
    rw [hp]
    rintro r w1 ⟨rfl, hb1⟩
    obtain ⟨hc, hf⟩ := bcell hb1
    go_wp2_with fail
    rw [HU.out]
    go_wp2_with fail
    refine (num_digits U (by omega) _).mono ?_
    rw [hd]
    rintro r w2 ⟨rfl, hb2'⟩
    have hb2 := up hb1 hb2'
    clear hc hf
    obtain ⟨hc, hf⟩ := bcell hb2
    go_wp2_with fail
    refine wp_region_from hb2 (by kernel_rfl) (by kernel_rfl) ?_
    repeat (go_big_quiet_step (fail))
    refine wpQuiet_nil ?_
    rintro _ ⟨x3, rfl⟩
    have hb3 := x3.property
    clear hc hf
    obtain ⟨hc, hf⟩ := bcell hb3
    go_wp2_with fail
    rw [HR.out]
    go_wp2_with fail
    refine (hasPrefix R ⟨#[46]⟩ _).mono ?_
    rw [hr]
    rintro r w4 ⟨rfl, hb4'⟩
    have hb4 := up hb3 hb4'
    clear hc hf
    obtain ⟨hc, hf⟩ := bcell hb4
    go_wp2_with fail
    rw [HS.out]
    go_wp2_with fail
    refine (num_digits S (by omega) _).mono ?_
    rw [hf0]
    rintro r w5 ⟨rfl, hb5'⟩
    have hb5 := up hb4 hb5'
    clear hc hf
    obtain ⟨hc, hf⟩ := bcell hb5
    go_wp2_with fail
    refine (num_zero _).mono ?_
    rintro r w6 ⟨rfl, hb6'⟩
    have hb6 := up hb5 hb6'
    clear hc hf
    obtain ⟨hc, hf⟩ := bcell hb6
    go_wp2
    refine bodyPost_ret (v := numRes ((0, 0), 10)) ?_ rfl ⟨rfl, ?_⟩
    · simp [numRes, results, Tryd.results25, go_sem, hc]
    · exact st1 (st1 (up (al1 _ _) hb6) _ _ _ (by omega)) _ _ _ (by omega)

set_option maxRecDepth 100000 in
theorem parse_Dn (s : ByteArray) (hs : s.size ≤ 2305843009213693952) (U : ByteArray) (hU : s.extract 1 s.size = U) (hs1 : 0 < s.size) (hus : U.size ≤ s.size) (hp : Lib.hasPrefix s.data.toList [45] = true) (d : Nat) (hd : nDig U.data.toList = d) (h1 : d ≤ U.size) (h01 : 1 ≤ d) (hz0 : ((d : Int) == 0) = false) (hz : ¬ 1 < d ∨ (1 < d ∧ (((U[0]'(by omega)).toNat : Int) == 48) = false)) (A R : ByteArray) (hA : U.extract 0 d = A) (hR : U.extract d U.size = R) (_hAs : A.size ≤ 2305843009213693952) (hRs : R.size ≤ 2305843009213693952) (hr : Lib.hasPrefix R.data.toList [46] = false) (e : Int) (he : expoN R.data.toList = (e, false)) (_he0 : -1099511627776 ≤ e) (_he1 : e ≤ 1099511627776) (w : World) (_hg : Glob w) :
    Calls Tryd.prog 25 #[.string s] w fun r w' => r = .returned (numRes ((0, 0), 10)) ∧ Below w.heap.size w w' := by
  have HU := Keep.mk hU
  clear hU
  have HA := Keep.mk hA
  have HR := Keep.mk hR
  clear hA hR
  rcases hz with hz | ⟨hz, hu⟩
  all_goals
    go_enter Tryd.func25, Tryd.ntmps25
    go_wp2_with fail
    refine (hasPrefix s ⟨#[45]⟩ _).mono ?_
    rw [hp]
    rintro r w1 ⟨rfl, hb1⟩
    obtain ⟨hc, hf⟩ := bcell hb1
    go_wp2_with fail
    rw [HU.out]
    go_wp2_with fail
    refine (num_digits U (by omega) _).mono ?_
    rw [hd]
    rintro r w2 ⟨rfl, hb2'⟩
    have hb2 := up hb1 hb2'
    clear hc hf
    obtain ⟨hc, hf⟩ := bcell hb2
    go_wp2_with fail
    refine wp_region_from hb2 (by kernel_rfl) (by kernel_rfl) ?_
    repeat (go_big_quiet_step (fail))
    refine wpQuiet_nil ?_
    rintro _ ⟨x3, rfl⟩
    have hb3 := x3.property
    clear hc hf
    obtain ⟨hc, hf⟩ := bcell hb3
    go_wp2_with fail
    rw [HR.out]
    go_wp2_with fail
    refine (hasPrefix R ⟨#[46]⟩ _).mono ?_
    rw [hr]
    rintro r w4 ⟨rfl, hb4'⟩
    have hb4 := up hb3 hb4'
    clear hc hf
    obtain ⟨hc, hf⟩ := bcell hb4
    go_wp2_with fail
    rw [HA.out]
    go_wp2_with fail
    refine (num_exponent R (by omega) _).mono ?_
    rw [he]; unfold expRes
    rintro r w5 ⟨rfl, hb5'⟩
    have hb5 := up hb4 hb5'
    clear hc hf
    obtain ⟨hc, hf⟩ := bcell hb5
    go_wp2_with fail
    refine (num_zero _).mono ?_
    rintro r w6 ⟨rfl, hb6'⟩
    have hb6 := up hb5 hb6'
    clear hc hf
    obtain ⟨hc, hf⟩ := bcell hb6
    go_wp2
    refine bodyPost_ret (v := numRes ((0, 0), 10)) ?_ rfl ⟨rfl, ?_⟩
    · simp [numRes, results, Tryd.results25, go_sem, hc]
    · exact st1 (st1 (up (al1 _ _) hb6) _ _ _ (by omega)) _ _ _ (by omega)

set_option maxRecDepth 100000 in
theorem parse_Dnf (s : ByteArray) (hs : s.size ≤ 2305843009213693952) (U : ByteArray) (hU : s.extract 1 s.size = U) (hs1 : 0 < s.size) (hus : U.size ≤ s.size) (hp : Lib.hasPrefix s.data.toList [45] = true) (d : Nat) (hd : nDig U.data.toList = d) (h1 : d ≤ U.size) (h01 : 1 ≤ d) (hz0 : ((d : Int) == 0) = false) (hz : ¬ 1 < d ∨ (1 < d ∧ (((U[0]'(by omega)).toNat : Int) == 48) = false)) (A R : ByteArray) (hA : U.extract 0 d = A) (hR : U.extract d U.size = R) (_hAs : A.size ≤ 2305843009213693952) (hRs : R.size ≤ 2305843009213693952) (hr : Lib.hasPrefix R.data.toList [46] = true) (hR1 : 0 < R.size) (S : ByteArray) (hS : R.extract 1 R.size = S) (hSs : S.size ≤ 2305843009213693952) (f : Nat) (hf0 : nDig S.data.toList = f) (hff : f + 1 ≤ R.size) (hf1 : ((f : Int) == 0) = false) (A2 R2 : ByteArray) (hA2 : A ++ R.extract 1 (1 + f) = A2) (hR2 : R.extract (1 + f) R.size = R2) (_hA2s : A2.size ≤ 2305843009213693952) (hR2s : R2.size ≤ 2305843009213693952) (e : Int) (he : expoN R2.data.toList = (e, false)) (_he0 : -1099511627776 ≤ e) (_he1 : e ≤ 1099511627776) (w : World) (_hg : Glob w) :
    Calls Tryd.prog 25 #[.string s] w fun r w' => r = .returned (numRes ((0, 0), 10)) ∧ Below w.heap.size w w' := by
  have HU := Keep.mk hU
  clear hU
  have HA := Keep.mk hA
  have HR := Keep.mk hR
  clear hA hR
  have HS := Keep.mk hS
  clear hS
  have HA2 := Keep.mk hA2
  have HR2 := Keep.mk hR2
  clear hA2 hR2
  rcases hz with hz | ⟨hz, hu⟩
  all_goals
    go_enter Tryd.func25, Tryd.ntmps25
    go_wp2_with fail
    refine (hasPrefix s ⟨#[45]⟩ _).mono ?_
    rw [hp]
    rintro r w1 ⟨rfl, hb1⟩
    obtain ⟨hc, hf⟩ := bcell hb1
    go_wp2_with fail
    rw [HU.out]
    go_wp2_with fail
    refine (num_digits U (by omega) _).mono ?_
    rw [hd]
    rintro r w2 ⟨rfl, hb2'⟩
    have hb2 := up hb1 hb2'
    clear hc hf
    obtain ⟨hc, hf⟩ := bcell hb2
    go_wp2_with fail
    refine wp_region_from hb2 (by kernel_rfl) (by kernel_rfl) ?_
    repeat (go_big_quiet_step (fail))
    refine wpQuiet_nil ?_
    rintro _ ⟨x3, rfl⟩
    have hb3 := x3.property
    clear hc hf
    obtain ⟨hc, hf⟩ := bcell hb3
    go_wp2_with fail
    rw [HR.out]
    go_wp2_with fail
    refine (hasPrefix R ⟨#[46]⟩ _).mono ?_
    rw [hr]
    rintro r w4 ⟨rfl, hb4'⟩
    have hb4 := up hb3 hb4'
    clear hc hf
    obtain ⟨hc, hf⟩ := bcell hb4
    go_wp2_with fail
    rw [HS.out]
    go_wp2_with fail
    refine (num_digits S (by omega) _).mono ?_
    rw [hf0]
    rintro r w5 ⟨rfl, hb5'⟩
    have hb5 := up hb4 hb5'
    clear hc hf
    obtain ⟨hc, hf⟩ := bcell hb5
    go_wp2_with fail
    refine wp_region_from hb5 (by kernel_rfl) (by kernel_rfl) ?_
    repeat (go_big_quiet_step (fail))
    refine wpQuiet_nil ?_
    rintro _ ⟨x6, rfl⟩
    have hb6 := x6.property
    clear hc hf
    obtain ⟨hc, hf⟩ := bcell hb6
    go_wp2_with fail
    rw [HA.out, HA2.out, HR2.out]
    go_wp2_with fail
    refine (num_exponent R2 (by omega) _).mono ?_
    rw [he]; unfold expRes
    rintro r w7 ⟨rfl, hb7'⟩
    have hb7 := up hb6 hb7'
    clear hc hf
    obtain ⟨hc, hf⟩ := bcell hb7
    go_wp2_with fail
    refine (num_zero _).mono ?_
    rintro r w8 ⟨rfl, hb8'⟩
    have hb8 := up hb7 hb8'
    clear hc hf
    obtain ⟨hc, hf⟩ := bcell hb8
    go_wp2
    refine bodyPost_ret (v := numRes ((0, 0), 10)) ?_ rfl ⟨rfl, ?_⟩
    · simp [numRes, results, Tryd.results25, go_sem, hc]
    · exact st1 (st1 (up (al1 _ _) hb8) _ _ _ (by omega)) _ _ _ (by omega)

set_option maxRecDepth 100000 in
theorem parse_En (s : ByteArray) (hs : s.size ≤ 2305843009213693952) (U : ByteArray) (hU : s.extract 1 s.size = U) (hs1 : 0 < s.size) (hus : U.size ≤ s.size) (hp : Lib.hasPrefix s.data.toList [45] = true) (d : Nat) (hd : nDig U.data.toList = d) (h1 : d ≤ U.size) (h01 : 1 ≤ d) (hz0 : ((d : Int) == 0) = false) (hz : ¬ 1 < d ∨ (1 < d ∧ (((U[0]'(by omega)).toNat : Int) == 48) = false)) (A R : ByteArray) (hA : U.extract 0 d = A) (hR : U.extract d U.size = R) (hAs : A.size ≤ 2305843009213693952) (hRs : R.size ≤ 2305843009213693952) (hr : Lib.hasPrefix R.data.toList [46] = false) (e : Int) (he : expoN R.data.toList = (e, true)) (_he0 : -1099511627776 ≤ e) (_he1 : e ≤ 1099511627776) (L T : ByteArray) (hL : ⟨(Lib.trimLeftB A.data.toList 48).toArray⟩ = L) (hT : ⟨(Lib.trimRightB L.data.toList 48).toArray⟩ = T) (hLs : L.size ≤ A.size) (hTs : T.size ≤ L.size) (hT0 : T = ⟨#[]⟩) (w : World) (_hg : Glob w) :
    Calls Tryd.prog 25 #[.string s] w fun r w' => r = .returned (numRes ((0, 0), 0)) ∧ Below w.heap.size w w' := by
  have HU := Keep.mk hU
  clear hU
  have HA := Keep.mk hA
  have HR := Keep.mk hR
  clear hA hR
  have HL := Keep.mk hL
  have HT := Keep.mk hT
  clear hL hT
  rcases hz with hz | ⟨hz, hu⟩
  all_goals
    go_enter Tryd.func25, Tryd.ntmps25
    go_wp2_with fail
    refine (hasPrefix s ⟨#[45]⟩ _).mono ?_
    rw [hp]
    rintro r w1 ⟨rfl, hb1⟩
    obtain ⟨hc, hf⟩ := bcell hb1
    go_wp2_with fail
    rw [HU.out]
    go_wp2_with fail
    refine (num_digits U (by omega) _).mono ?_
    rw [hd]
    rintro r w2 ⟨rfl, hb2'⟩
    have hb2 := up hb1 hb2'
    clear hc hf
    obtain ⟨hc, hf⟩ := bcell hb2
    go_wp2_with fail
    refine wp_region_from hb2 (by kernel_rfl) (by kernel_rfl) ?_
    repeat (go_big_quiet_step (fail))
    refine wpQuiet_nil ?_
    rintro _ ⟨x3, rfl⟩
    have hb3 := x3.property
    clear hc hf
    obtain ⟨hc, hf⟩ := bcell hb3
    go_wp2_with fail
    rw [HR.out]
    go_wp2_with fail
    refine (hasPrefix R ⟨#[46]⟩ _).mono ?_
    rw [hr]
    rintro r w4 ⟨rfl, hb4'⟩
    have hb4 := up hb3 hb4'
    clear hc hf
    obtain ⟨hc, hf⟩ := bcell hb4
    go_wp2_with fail
    rw [HA.out]
    go_wp2_with fail
    refine (num_exponent R (by omega) _).mono ?_
    rw [he]; unfold expRes
    rintro r w5 ⟨rfl, hb5'⟩
    have hb5 := up hb4 hb5'
    clear hc hf
    obtain ⟨hc, hf⟩ := bcell hb5
    go_wp2_with fail
    refine (trimLeft A _).mono ?_
    rw [HL.out]
    rintro r w6 ⟨rfl, hb6'⟩
    have hb6 := up hb5 hb6'
    clear hc hf
    obtain ⟨hc, hf⟩ := bcell hb6
    go_wp2_with fail
    refine (trimRight L (by omega) _).mono ?_
    rw [HT.out]
    rintro r w7 ⟨rfl, hb7'⟩
    have hb7 := up hb6 hb7'
    clear hc hf
    obtain ⟨hc, hf⟩ := bcell hb7
    subst hT0
    go_wp2_with fail
    refine (num_zero _).mono ?_
    rintro r w8 ⟨rfl, hb8'⟩
    have hb8 := up hb7 hb8'
    clear hc hf
    obtain ⟨hc, hf⟩ := bcell hb8
    go_wp2
    refine bodyPost_ret (v := numRes ((0, 0), 0)) ?_ rfl ⟨rfl, ?_⟩
    · simp [numRes, results, Tryd.results25, go_sem, hc]
    · exact st1 (st1 (up (al1 _ _) hb8) _ _ _ (by omega)) _ _ _ (by omega)

set_option maxRecDepth 100000 in
theorem parse_Enf (s : ByteArray) (hs : s.size ≤ 2305843009213693952) (U : ByteArray) (hU : s.extract 1 s.size = U) (hs1 : 0 < s.size) (hus : U.size ≤ s.size) (hp : Lib.hasPrefix s.data.toList [45] = true) (d : Nat) (hd : nDig U.data.toList = d) (h1 : d ≤ U.size) (h01 : 1 ≤ d) (hz0 : ((d : Int) == 0) = false) (hz : ¬ 1 < d ∨ (1 < d ∧ (((U[0]'(by omega)).toNat : Int) == 48) = false)) (A R : ByteArray) (hA : U.extract 0 d = A) (hR : U.extract d U.size = R) (_hAs : A.size ≤ 2305843009213693952) (hRs : R.size ≤ 2305843009213693952) (hr : Lib.hasPrefix R.data.toList [46] = true) (hR1 : 0 < R.size) (S : ByteArray) (hS : R.extract 1 R.size = S) (hSs : S.size ≤ 2305843009213693952) (f : Nat) (hf0 : nDig S.data.toList = f) (hff : f + 1 ≤ R.size) (hf1 : ((f : Int) == 0) = false) (A2 R2 : ByteArray) (hA2 : A ++ R.extract 1 (1 + f) = A2) (hR2 : R.extract (1 + f) R.size = R2) (hA2s : A2.size ≤ 2305843009213693952) (hR2s : R2.size ≤ 2305843009213693952) (e : Int) (he : expoN R2.data.toList = (e, true)) (_he0 : -1099511627776 ≤ e) (_he1 : e ≤ 1099511627776) (L T : ByteArray) (hL : ⟨(Lib.trimLeftB A2.data.toList 48).toArray⟩ = L) (hT : ⟨(Lib.trimRightB L.data.toList 48).toArray⟩ = T) (hLs : L.size ≤ A2.size) (hTs : T.size ≤ L.size) (hT0 : T = ⟨#[]⟩) (w : World) (_hg : Glob w) :
    Calls Tryd.prog 25 #[.string s] w fun r w' => r = .returned (numRes ((0, 0), 0)) ∧ Below w.heap.size w w' := by
  have HU := Keep.mk hU
  clear hU
  have HA := Keep.mk hA
  have HR := Keep.mk hR
  clear hA hR
  have HS := Keep.mk hS
  clear hS
  have HA2 := Keep.mk hA2
  have HR2 := Keep.mk hR2
  clear hA2 hR2
  have HL := Keep.mk hL
  have HT := Keep.mk hT
  clear hL hT
  rcases hz with hz | ⟨hz, hu⟩
  all_goals
    go_enter Tryd.func25, Tryd.ntmps25
    go_wp2_with fail
    refine (hasPrefix s ⟨#[45]⟩ _).mono ?_
    rw [hp]
    rintro r w1 ⟨rfl, hb1⟩
    obtain ⟨hc, hf⟩ := bcell hb1
    go_wp2_with fail
    rw [HU.out]
    go_wp2_with fail
    refine (num_digits U (by omega) _).mono ?_
    rw [hd]
    rintro r w2 ⟨rfl, hb2'⟩
    have hb2 := up hb1 hb2'
    clear hc hf
    obtain ⟨hc, hf⟩ := bcell hb2
    go_wp2_with fail
    refine wp_region_from hb2 (by kernel_rfl) (by kernel_rfl) ?_
    repeat (go_big_quiet_step (fail))
    refine wpQuiet_nil ?_
    rintro _ ⟨x3, rfl⟩
    have hb3 := x3.property
    clear hc hf
    obtain ⟨hc, hf⟩ := bcell hb3
    go_wp2_with fail
    rw [HR.out]
    go_wp2_with fail
    refine (hasPrefix R ⟨#[46]⟩ _).mono ?_
    rw [hr]
    rintro r w4 ⟨rfl, hb4'⟩
    have hb4 := up hb3 hb4'
    clear hc hf
    obtain ⟨hc, hf⟩ := bcell hb4
    go_wp2_with fail
    rw [HS.out]
    go_wp2_with fail
    refine (num_digits S (by omega) _).mono ?_
    rw [hf0]
    rintro r w5 ⟨rfl, hb5'⟩
    have hb5 := up hb4 hb5'
    clear hc hf
    obtain ⟨hc, hf⟩ := bcell hb5
    go_wp2_with fail
    refine wp_region_from hb5 (by kernel_rfl) (by kernel_rfl) ?_
    repeat (go_big_quiet_step (fail))
    refine wpQuiet_nil ?_
    rintro _ ⟨x6, rfl⟩
    have hb6 := x6.property
    clear hc hf
    obtain ⟨hc, hf⟩ := bcell hb6
    go_wp2_with fail
    rw [HA.out, HA2.out, HR2.out]
    go_wp2_with fail
    refine (num_exponent R2 (by omega) _).mono ?_
    rw [he]; unfold expRes
    rintro r w7 ⟨rfl, hb7'⟩
    have hb7 := up hb6 hb7'
    clear hc hf
    obtain ⟨hc, hf⟩ := bcell hb7
    go_wp2_with fail
    refine (trimLeft A2 _).mono ?_
    rw [HL.out]
    rintro r w8 ⟨rfl, hb8'⟩
    have hb8 := up hb7 hb8'
    clear hc hf
    obtain ⟨hc, hf⟩ := bcell hb8
    go_wp2_with fail
    refine (trimRight L (by omega) _).mono ?_
    rw [HT.out]
    rintro r w9 ⟨rfl, hb9'⟩
    have hb9 := up hb8 hb9'
    clear hc hf
    obtain ⟨hc, hf⟩ := bcell hb9
    subst hT0
    go_wp2_with fail
    refine (num_zero _).mono ?_
    rintro r w10 ⟨rfl, hb10'⟩
    have hb10 := up hb9 hb10'
    clear hc hf
    obtain ⟨hc, hf⟩ := bcell hb10
    go_wp2
    refine bodyPost_ret (v := numRes ((0, 0), 0)) ?_ rfl ⟨rfl, ?_⟩
    · simp [numRes, results, Tryd.results25, go_sem, hc]
    · exact st1 (st1 (up (al1 _ _) hb10) _ _ _ (by omega)) _ _ _ (by omega)

set_option maxRecDepth 100000 in
theorem parse_Fn (s : ByteArray) (hs : s.size ≤ 2305843009213693952) (U : ByteArray) (hU : s.extract 1 s.size = U) (hs1 : 0 < s.size) (hus : U.size ≤ s.size) (hp : Lib.hasPrefix s.data.toList [45] = true) (d : Nat) (hd : nDig U.data.toList = d) (h1 : d ≤ U.size) (h01 : 1 ≤ d) (hz0 : ((d : Int) == 0) = false) (hz : ¬ 1 < d ∨ (1 < d ∧ (((U[0]'(by omega)).toNat : Int) == 48) = false)) (A R : ByteArray) (hA : U.extract 0 d = A) (hR : U.extract d U.size = R) (hAs : A.size ≤ 2305843009213693952) (hRs : R.size ≤ 2305843009213693952) (hr : Lib.hasPrefix R.data.toList [46] = false) (e : Int) (he : expoN R.data.toList = (e, true)) (_he0 : -1099511627776 ≤ e) (_he1 : e ≤ 1099511627776) (L T : ByteArray) (hL : ⟨(Lib.trimLeftB A.data.toList 48).toArray⟩ = L) (hT : ⟨(Lib.trimRightB L.data.toList 48).toArray⟩ = T) (hLs : L.size ≤ A.size) (_hTs : T.size ≤ L.size) (hTe : T.toList.isEmpty = false) (hT1 : 18 < T.size) (w : World) (_hg : Glob w) :
    Calls Tryd.prog 25 #[.string s] w fun r w' => r = .returned (numRes ((0, 0), 11)) ∧ Below w.heap.size w w' := by
  have HU := Keep.mk hU
  clear hU
  have HA := Keep.mk hA
  have HR := Keep.mk hR
  clear hA hR
  have HL := Keep.mk hL
  have HT := Keep.mk hT
  clear hL hT
  rcases hz with hz | ⟨hz, hu⟩
  all_goals
    go_enter Tryd.func25, Tryd.ntmps25
    go_wp2_with fail
    refine (hasPrefix s ⟨#[45]⟩ _).mono ?_
    rw [hp]
    rintro r w1 ⟨rfl, hb1⟩
    obtain ⟨hc, hf⟩ := bcell hb1
    go_wp2_with fail
    rw [HU.out]
    go_wp2_with fail
    refine (num_digits U (by omega) _).mono ?_
    rw [hd]
    rintro r w2 ⟨rfl, hb2'⟩
    have hb2 := up hb1 hb2'
    clear hc hf
    obtain ⟨hc, hf⟩ := bcell hb2
    go_wp2_with fail
    refine wp_region_from hb2 (by kernel_rfl) (by kernel_rfl) ?_
    repeat (go_big_quiet_step (fail))
    refine wpQuiet_nil ?_
    rintro _ ⟨x3, rfl⟩
    have hb3 := x3.property
    clear hc hf
    obtain ⟨hc, hf⟩ := bcell hb3
    go_wp2_with fail
    rw [HR.out]
    go_wp2_with fail
    refine (hasPrefix R ⟨#[46]⟩ _).mono ?_
    rw [hr]
    rintro r w4 ⟨rfl, hb4'⟩
    have hb4 := up hb3 hb4'
    clear hc hf
    obtain ⟨hc, hf⟩ := bcell hb4
    go_wp2_with fail
    rw [HA.out]
    go_wp2_with fail
    refine (num_exponent R (by omega) _).mono ?_
    rw [he]; unfold expRes
    rintro r w5 ⟨rfl, hb5'⟩
    have hb5 := up hb4 hb5'
    clear hc hf
    obtain ⟨hc, hf⟩ := bcell hb5
    go_wp2_with fail
    refine (trimLeft A _).mono ?_
    rw [HL.out]
    rintro r w6 ⟨rfl, hb6'⟩
    have hb6 := up hb5 hb6'
    clear hc hf
    obtain ⟨hc, hf⟩ := bcell hb6
    go_wp2_with fail
    refine (trimRight L (by omega) _).mono ?_
    rw [HT.out]
    rintro r w7 ⟨rfl, hb7'⟩
    have hb7 := up hb6 hb7'
    clear hc hf
    obtain ⟨hc, hf⟩ := bcell hb7
    go_wp2_with fail
    refine (num_zero _).mono ?_
    rintro r w8 ⟨rfl, hb8'⟩
    have hb8 := up hb7 hb8'
    clear hc hf
    obtain ⟨hc, hf⟩ := bcell hb8
    go_wp2
    refine bodyPost_ret (v := numRes ((0, 0), 11)) ?_ rfl ⟨rfl, ?_⟩
    · simp [numRes, results, Tryd.results25, go_sem, hc]
    · exact st1 (st1 (up (al1 _ _) hb8) _ _ _ (by omega)) _ _ _ (by omega)

set_option maxRecDepth 100000 in
theorem parse_Fnf (s : ByteArray) (hs : s.size ≤ 2305843009213693952) (U : ByteArray) (hU : s.extract 1 s.size = U) (hs1 : 0 < s.size) (hus : U.size ≤ s.size) (hp : Lib.hasPrefix s.data.toList [45] = true) (d : Nat) (hd : nDig U.data.toList = d) (h1 : d ≤ U.size) (h01 : 1 ≤ d) (hz0 : ((d : Int) == 0) = false) (hz : ¬ 1 < d ∨ (1 < d ∧ (((U[0]'(by omega)).toNat : Int) == 48) = false)) (A R : ByteArray) (hA : U.extract 0 d = A) (hR : U.extract d U.size = R) (_hAs : A.size ≤ 2305843009213693952) (hRs : R.size ≤ 2305843009213693952) (hr : Lib.hasPrefix R.data.toList [46] = true) (hR1 : 0 < R.size) (S : ByteArray) (hS : R.extract 1 R.size = S) (hSs : S.size ≤ 2305843009213693952) (f : Nat) (hf0 : nDig S.data.toList = f) (hff : f + 1 ≤ R.size) (hf1 : ((f : Int) == 0) = false) (A2 R2 : ByteArray) (hA2 : A ++ R.extract 1 (1 + f) = A2) (hR2 : R.extract (1 + f) R.size = R2) (hA2s : A2.size ≤ 2305843009213693952) (hR2s : R2.size ≤ 2305843009213693952) (e : Int) (he : expoN R2.data.toList = (e, true)) (_he0 : -1099511627776 ≤ e) (_he1 : e ≤ 1099511627776) (L T : ByteArray) (hL : ⟨(Lib.trimLeftB A2.data.toList 48).toArray⟩ = L) (hT : ⟨(Lib.trimRightB L.data.toList 48).toArray⟩ = T) (hLs : L.size ≤ A2.size) (_hTs : T.size ≤ L.size) (hTe : T.toList.isEmpty = false) (hT1 : 18 < T.size) (w : World) (_hg : Glob w) :
    Calls Tryd.prog 25 #[.string s] w fun r w' => r = .returned (numRes ((0, 0), 11)) ∧ Below w.heap.size w w' := by
  have HU := Keep.mk hU
  clear hU
  have HA := Keep.mk hA
  have HR := Keep.mk hR
  clear hA hR
  have HS := Keep.mk hS
  clear hS
  have HA2 := Keep.mk hA2
  have HR2 := Keep.mk hR2
  clear hA2 hR2
  have HL := Keep.mk hL
  have HT := Keep.mk hT
  clear hL hT
  rcases hz with hz | ⟨hz, hu⟩
  all_goals
    go_enter Tryd.func25, Tryd.ntmps25
    go_wp2_with fail
    refine (hasPrefix s ⟨#[45]⟩ _).mono ?_
    rw [hp]
    rintro r w1 ⟨rfl, hb1⟩
    obtain ⟨hc, hf⟩ := bcell hb1
    go_wp2_with fail
    rw [HU.out]
    go_wp2_with fail
    refine (num_digits U (by omega) _).mono ?_
    rw [hd]
    rintro r w2 ⟨rfl, hb2'⟩
    have hb2 := up hb1 hb2'
    clear hc hf
    obtain ⟨hc, hf⟩ := bcell hb2
    go_wp2_with fail
    refine wp_region_from hb2 (by kernel_rfl) (by kernel_rfl) ?_
    repeat (go_big_quiet_step (fail))
    refine wpQuiet_nil ?_
    rintro _ ⟨x3, rfl⟩
    have hb3 := x3.property
    clear hc hf
    obtain ⟨hc, hf⟩ := bcell hb3
    go_wp2_with fail
    rw [HR.out]
    go_wp2_with fail
    refine (hasPrefix R ⟨#[46]⟩ _).mono ?_
    rw [hr]
    rintro r w4 ⟨rfl, hb4'⟩
    have hb4 := up hb3 hb4'
    clear hc hf
    obtain ⟨hc, hf⟩ := bcell hb4
    go_wp2_with fail
    rw [HS.out]
    go_wp2_with fail
    refine (num_digits S (by omega) _).mono ?_
    rw [hf0]
    rintro r w5 ⟨rfl, hb5'⟩
    have hb5 := up hb4 hb5'
    clear hc hf
    obtain ⟨hc, hf⟩ := bcell hb5
    go_wp2_with fail
    refine wp_region_from hb5 (by kernel_rfl) (by kernel_rfl) ?_
    repeat (go_big_quiet_step (fail))
    refine wpQuiet_nil ?_
    rintro _ ⟨x6, rfl⟩
    have hb6 := x6.property
    clear hc hf
    obtain ⟨hc, hf⟩ := bcell hb6
    go_wp2_with fail
    rw [HA.out, HA2.out, HR2.out]
    go_wp2_with fail
    refine (num_exponent R2 (by omega) _).mono ?_
    rw [he]; unfold expRes
    rintro r w7 ⟨rfl, hb7'⟩
    have hb7 := up hb6 hb7'
    clear hc hf
    obtain ⟨hc, hf⟩ := bcell hb7
    go_wp2_with fail
    refine (trimLeft A2 _).mono ?_
    rw [HL.out]
    rintro r w8 ⟨rfl, hb8'⟩
    have hb8 := up hb7 hb8'
    clear hc hf
    obtain ⟨hc, hf⟩ := bcell hb8
    go_wp2_with fail
    refine (trimRight L (by omega) _).mono ?_
    rw [HT.out]
    rintro r w9 ⟨rfl, hb9'⟩
    have hb9 := up hb8 hb9'
    clear hc hf
    obtain ⟨hc, hf⟩ := bcell hb9
    go_wp2_with fail
    refine (num_zero _).mono ?_
    rintro r w10 ⟨rfl, hb10'⟩
    have hb10 := up hb9 hb10'
    clear hc hf
    obtain ⟨hc, hf⟩ := bcell hb10
    go_wp2
    refine bodyPost_ret (v := numRes ((0, 0), 11)) ?_ rfl ⟨rfl, ?_⟩
    · simp [numRes, results, Tryd.results25, go_sem, hc]
    · exact st1 (st1 (up (al1 _ _) hb10) _ _ _ (by omega)) _ _ _ (by omega)

set_option maxRecDepth 100000 in
theorem parse_Gn (s : ByteArray) (hs : s.size ≤ 2305843009213693952) (U : ByteArray) (hU : s.extract 1 s.size = U) (hs1 : 0 < s.size) (hus : U.size ≤ s.size) (hp : Lib.hasPrefix s.data.toList [45] = true) (d : Nat) (hd : nDig U.data.toList = d) (h1 : d ≤ U.size) (h01 : 1 ≤ d) (hz0 : ((d : Int) == 0) = false) (hz : ¬ 1 < d ∨ (1 < d ∧ (((U[0]'(by omega)).toNat : Int) == 48) = false)) (A R : ByteArray) (hA : U.extract 0 d = A) (hR : U.extract d U.size = R) (hAs : A.size ≤ 2305843009213693952) (hRs : R.size ≤ 2305843009213693952) (hr : Lib.hasPrefix R.data.toList [46] = false) (e : Int) (he : expoN R.data.toList = (e, true)) (he0 : -1099511627776 ≤ e) (he1 : e ≤ 1099511627776) (L T : ByteArray) (hL : ⟨(Lib.trimLeftB A.data.toList 48).toArray⟩ = L) (hT : ⟨(Lib.trimRightB L.data.toList 48).toArray⟩ = T) (hLs : L.size ≤ A.size) (hTs : T.size ≤ L.size) (hTe : T.toList.isEmpty = false) (hT0 : 0 < T.size) (hT1 : T.size ≤ 18) (HD : Keep (∀ k (hk : k < T.size), 48 ≤ T[k].toNat ∧ T[k].toNat ≤ 57)) (w : World) (hg : Glob w) :
    Calls Tryd.prog 25 #[.string s] w fun r w' => r = .returned (numRes (norm true (val (dgs T.data.toList)) (e + L.size - T.size))) ∧ Below w.heap.size w w' := by
  have HU := Keep.mk hU
  clear hU
  have HA := Keep.mk hA
  have HR := Keep.mk hR
  clear hA hR
  have HL := Keep.mk hL
  have HT := Keep.mk hT
  clear hL hT
  rcases hz with hz | ⟨hz, hu⟩
  all_goals
    go_enter Tryd.func25, Tryd.ntmps25
    go_wp2_with fail
    refine (hasPrefix s ⟨#[45]⟩ _).mono ?_
    rw [hp]
    rintro r w1 ⟨rfl, hb1⟩
    obtain ⟨hc, hf⟩ := bcell hb1
    go_wp2_with fail
    rw [HU.out]
    go_wp2_with fail
    refine (num_digits U (by omega) _).mono ?_
    rw [hd]
    rintro r w2 ⟨rfl, hb2'⟩
    have hb2 := up hb1 hb2'
    clear hc hf
    obtain ⟨hc, hf⟩ := bcell hb2
    go_wp2_with fail
    refine wp_region_from hb2 (by kernel_rfl) (by kernel_rfl) ?_
    repeat (go_big_quiet_step (fail))
    refine wpQuiet_nil ?_
    rintro _ ⟨x3, rfl⟩
    have hb3 := x3.property
    clear hc hf
    obtain ⟨hc, hf⟩ := bcell hb3
    go_wp2_with fail
    rw [HR.out]
    go_wp2_with fail
    refine (hasPrefix R ⟨#[46]⟩ _).mono ?_
    rw [hr]
    rintro r w4 ⟨rfl, hb4'⟩
    have hb4 := up hb3 hb4'
    clear hc hf
    obtain ⟨hc, hf⟩ := bcell hb4
    go_wp2_with fail
    rw [HA.out]
    go_wp2_with fail
    refine (num_exponent R (by omega) _).mono ?_
    rw [he]; unfold expRes
    rintro r w5 ⟨rfl, hb5'⟩
    have hb5 := up hb4 hb5'
    clear hc hf
    obtain ⟨hc, hf⟩ := bcell hb5
    go_wp2_with fail
    refine (trimLeft A _).mono ?_
    rw [HL.out]
    rintro r w6 ⟨rfl, hb6'⟩
    have hb6 := up hb5 hb6'
    clear hc hf
    obtain ⟨hc, hf⟩ := bcell hb6
    go_wp2_with fail
    refine (trimRight L (by omega) _).mono ?_
    rw [HT.out]
    rintro r w7 ⟨rfl, hb7'⟩
    have hb7 := up hb6 hb7'
    clear hc hf
    obtain ⟨hc, hf⟩ := bcell hb7
    go_wp2_with fail
    go_loop [12, 78] (fun m i => ∃ k : Nat, k ≤ T.size ∧ i = .int .i64 k ∧ m = .int .u64 (val (dgs (T.data.toList.take k)) : Nat)) (fun _ i => T.size - (intOf i).toNat)
    case atStart => exact ⟨0, Nat.zero_le _, rfl, rfl⟩
    case round =>
      obtain ⟨k, hk, rfl, rfl⟩ := hrel
      by_cases hlt : k < T.size
      · obtain ⟨hv, hv1⟩ := val_take T HD.out k hlt hT1
        have hdk := HD.out k hlt
        obtain ⟨hd1, hd2⟩ := hdk
        have HV := Keep.mk hv
        clear hv
        generalize val (dgs (T.data.toList.take k)) = v at *
        go_wp2
        refine ⟨⟨k + 1, by omega, by go_num, ?_⟩, by simp [intOf]; omega⟩
        rw [HV.out]
        congr 1; omega
      · have hk2 : k = T.size := by omega
        have HS := Keep.mk (show T.data.toList.take k = T.data.toList by rw [List.take_of_length_le]; simp; omega)
        clear hk2
        rw [HS.out]
        have HV := Keep.mk (val_18 T HD.out hT1)
        generalize hvv : val (dgs T.data.toList) = v
        rw [hvv] at HV
        obtain ⟨hv1⟩ := HV
        have HVV := Keep.mk hvv
        clear hvv
        go_wp2_with fail
        refine (num_made true 0 v (e + L.size - T.size) (by omega) (by omega) (by omega) (by omega) (by omega) (by omega) _ (hg.below (up (al1 _ _) hb7))).mono ?_
        rw [show wide 0 (v : Int) = v by unfold wide; omega]
        rintro r w8 ⟨rfl, hb8'⟩
        have hb8 := up hb7 hb8'
        clear hc hf
        obtain ⟨hc, hf⟩ := bcell hb8
        generalize hres : norm true v (e + L.size - T.size) = res
        have HRES := Keep.mk hres
        clear hres
        unfold numRes
        go_wp2
        refine bodyPost_ret (v := numRes res) ?_ rfl ⟨num_res (by rw [HVV.out, HRES.out]), ?_⟩
        · simp [numRes, results, Tryd.results25, go_sem, hc]
        · exact st1 (st1 (up (al1 _ _) hb8) _ _ _ (by omega)) _ _ _ (by omega)

set_option maxRecDepth 100000 in
theorem parse_Gnf (s : ByteArray) (hs : s.size ≤ 2305843009213693952) (U : ByteArray) (hU : s.extract 1 s.size = U) (hs1 : 0 < s.size) (hus : U.size ≤ s.size) (hp : Lib.hasPrefix s.data.toList [45] = true) (d : Nat) (hd : nDig U.data.toList = d) (h1 : d ≤ U.size) (h01 : 1 ≤ d) (hz0 : ((d : Int) == 0) = false) (hz : ¬ 1 < d ∨ (1 < d ∧ (((U[0]'(by omega)).toNat : Int) == 48) = false)) (A R : ByteArray) (hA : U.extract 0 d = A) (hR : U.extract d U.size = R) (_hAs : A.size ≤ 2305843009213693952) (hRs : R.size ≤ 2305843009213693952) (hr : Lib.hasPrefix R.data.toList [46] = true) (hR1 : 0 < R.size) (S : ByteArray) (hS : R.extract 1 R.size = S) (hSs : S.size ≤ 2305843009213693952) (f : Nat) (hf0 : nDig S.data.toList = f) (hff : f + 1 ≤ R.size) (hf1 : ((f : Int) == 0) = false) (A2 R2 : ByteArray) (hA2 : A ++ R.extract 1 (1 + f) = A2) (hR2 : R.extract (1 + f) R.size = R2) (hA2s : A2.size ≤ 2305843009213693952) (hR2s : R2.size ≤ 2305843009213693952) (e : Int) (he : expoN R2.data.toList = (e, true)) (he0 : -1099511627776 ≤ e) (he1 : e ≤ 1099511627776) (L T : ByteArray) (hL : ⟨(Lib.trimLeftB A2.data.toList 48).toArray⟩ = L) (hT : ⟨(Lib.trimRightB L.data.toList 48).toArray⟩ = T) (hLs : L.size ≤ A2.size) (hTs : T.size ≤ L.size) (hTe : T.toList.isEmpty = false) (hT0 : 0 < T.size) (hT1 : T.size ≤ 18) (HD : Keep (∀ k (hk : k < T.size), 48 ≤ T[k].toNat ∧ T[k].toNat ≤ 57)) (w : World) (hg : Glob w) :
    Calls Tryd.prog 25 #[.string s] w fun r w' => r = .returned (numRes (norm true (val (dgs T.data.toList)) (e - f + L.size - T.size))) ∧ Below w.heap.size w w' := by
  have HU := Keep.mk hU
  clear hU
  have HA := Keep.mk hA
  have HR := Keep.mk hR
  clear hA hR
  have HS := Keep.mk hS
  clear hS
  have HA2 := Keep.mk hA2
  have HR2 := Keep.mk hR2
  clear hA2 hR2
  have HL := Keep.mk hL
  have HT := Keep.mk hT
  clear hL hT
  rcases hz with hz | ⟨hz, hu⟩
  all_goals
    go_enter Tryd.func25, Tryd.ntmps25
    go_wp2_with fail
    refine (hasPrefix s ⟨#[45]⟩ _).mono ?_
    rw [hp]
    rintro r w1 ⟨rfl, hb1⟩
    obtain ⟨hc, hf⟩ := bcell hb1
    go_wp2_with fail
    rw [HU.out]
    go_wp2_with fail
    refine (num_digits U (by omega) _).mono ?_
    rw [hd]
    rintro r w2 ⟨rfl, hb2'⟩
    have hb2 := up hb1 hb2'
    clear hc hf
    obtain ⟨hc, hf⟩ := bcell hb2
    go_wp2_with fail
    refine wp_region_from hb2 (by kernel_rfl) (by kernel_rfl) ?_
    repeat (go_big_quiet_step (fail))
    refine wpQuiet_nil ?_
    rintro _ ⟨x3, rfl⟩
    have hb3 := x3.property
    clear hc hf
    obtain ⟨hc, hf⟩ := bcell hb3
    go_wp2_with fail
    rw [HR.out]
    go_wp2_with fail
    refine (hasPrefix R ⟨#[46]⟩ _).mono ?_
    rw [hr]
    rintro r w4 ⟨rfl, hb4'⟩
    have hb4 := up hb3 hb4'
    clear hc hf
    obtain ⟨hc, hf⟩ := bcell hb4
    go_wp2_with fail
    rw [HS.out]
    go_wp2_with fail
    refine (num_digits S (by omega) _).mono ?_
    rw [hf0]
    rintro r w5 ⟨rfl, hb5'⟩
    have hb5 := up hb4 hb5'
    clear hc hf
    obtain ⟨hc, hf⟩ := bcell hb5
    go_wp2_with fail
    refine wp_region_from hb5 (by kernel_rfl) (by kernel_rfl) ?_
    repeat (go_big_quiet_step (fail))
    refine wpQuiet_nil ?_
    rintro _ ⟨x6, rfl⟩
    have hb6 := x6.property
    clear hc hf
    obtain ⟨hc, hf⟩ := bcell hb6
    go_wp2_with fail
    rw [HA.out, HA2.out, HR2.out]
    go_wp2_with fail
    refine (num_exponent R2 (by omega) _).mono ?_
    rw [he]; unfold expRes
    rintro r w7 ⟨rfl, hb7'⟩
    have hb7 := up hb6 hb7'
    clear hc hf
    obtain ⟨hc, hf⟩ := bcell hb7
    go_wp2_with fail
    refine (trimLeft A2 _).mono ?_
    rw [HL.out]
    rintro r w8 ⟨rfl, hb8'⟩
    have hb8 := up hb7 hb8'
    clear hc hf
    obtain ⟨hc, hf⟩ := bcell hb8
    go_wp2_with fail
    refine (trimRight L (by omega) _).mono ?_
    rw [HT.out]
    rintro r w9 ⟨rfl, hb9'⟩
    have hb9 := up hb8 hb9'
    clear hc hf
    obtain ⟨hc, hf⟩ := bcell hb9
    go_wp2_with fail
    go_loop [12, 78] (fun m i => ∃ k : Nat, k ≤ T.size ∧ i = .int .i64 k ∧ m = .int .u64 (val (dgs (T.data.toList.take k)) : Nat)) (fun _ i => T.size - (intOf i).toNat)
    case atStart => exact ⟨0, Nat.zero_le _, rfl, rfl⟩
    case round =>
      obtain ⟨k, hk, rfl, rfl⟩ := hrel
      by_cases hlt : k < T.size
      · obtain ⟨hv, hv1⟩ := val_take T HD.out k hlt hT1
        have hdk := HD.out k hlt
        obtain ⟨hd1, hd2⟩ := hdk
        have HV := Keep.mk hv
        clear hv
        generalize val (dgs (T.data.toList.take k)) = v at *
        go_wp2
        refine ⟨⟨k + 1, by omega, by go_num, ?_⟩, by simp [intOf]; omega⟩
        rw [HV.out]
        congr 1; omega
      · have hk2 : k = T.size := by omega
        have HS := Keep.mk (show T.data.toList.take k = T.data.toList by rw [List.take_of_length_le]; simp; omega)
        clear hk2
        rw [HS.out]
        have HV := Keep.mk (val_18 T HD.out hT1)
        generalize hvv : val (dgs T.data.toList) = v
        rw [hvv] at HV
        obtain ⟨hv1⟩ := HV
        have HVV := Keep.mk hvv
        clear hvv
        go_wp2_with fail
        refine (num_made true 0 v (e - f + L.size - T.size) (by omega) (by omega) (by omega) (by omega) (by omega) (by omega) _ (hg.below (up (al1 _ _) hb9))).mono ?_
        rw [show wide 0 (v : Int) = v by unfold wide; omega]
        rintro r w10 ⟨rfl, hb10'⟩
        have hb10 := up hb9 hb10'
        clear hc hf
        obtain ⟨hc, hf⟩ := bcell hb10
        generalize hres : norm true v (e - f + L.size - T.size) = res
        have HRES := Keep.mk hres
        clear hres
        unfold numRes
        go_wp2
        refine bodyPost_ret (v := numRes res) ?_ rfl ⟨num_res (by rw [HVV.out, HRES.out]), ?_⟩
        · simp [numRes, results, Tryd.results25, go_sem, hc]
        · exact st1 (st1 (up (al1 _ _) hb10) _ _ _ (by omega)) _ _ _ (by omega)

end Go.Proofs.YtljemfajjeoecaaDoor
