/- The references' pair: both rows of digits with one exponent, as long as one another. Conditions: digits and exponents are no more than a thousand. -/
import Derived.Test.YtljemfajjeoecaaDoorRefWide
import Derived.Test.YtljemfajjeoecaaDoorRefRight
import Derived.Deep.RegionHeld3
namespace Go.Proofs.YtljemfajjeoecaaDoor
open Go Go.RowKit Go.Proofs Th

/-- the exponent of both -/
def pairE (a b : List Nat) (ea eb : Int) : Int := if b = [] then ea else if a = [] then eb else low ea eb
/-- what pair makes of two rows of digits -/
structure PairOut (a b : List Nat) (ea eb : Int) (x y : List Nat) : Prop where
  len : x.length = y.length
  dx : Digs x
  dy : Digs y
  vx : val x = val a * 10 ^ (ea - pairE a b ea eb).toNat
  vy : val y = val b * 10 ^ (eb - pairE a b ea eb).toNat
  small : val x + val y < 10 ^ x.length
  few : x.length ≤ 100000

theorem pair_out (a b : List Nat) (ea eb fa fb E : Int) (ka kb M : Nat) (hka : ka = (fa - E).toNat) (hkb : kb = (fb - E).toNat) (ha : Digs a) (hb : Digs b) (hE : E = pairE a b ea eb) (h1 : a ≠ [] → fa = ea) (h2 : b ≠ [] → fb = eb)
    (hM1 : 1 + (a.length : Int) + (fa - E).toNat ≤ M) (hM2 : 1 + (b.length : Int) + (fb - E).toNat ≤ M) (hM3 : M ≤ 100000) : PairOut a b ea eb (wideL a ka M) (wideL b kb M) := by
  subst hka hkb
  have l1 := length_wideL a (fa - E).toNat M (by omega)
  have l2 := length_wideL b (fb - E).toNat M (by omega)
  have v1 := val_wideL a (fa - E).toNat M
  have v2 := val_wideL b (fb - E).toNat M
  have b1 := val_lt a ha
  have b2 := val_lt b hb
  have s1 : val a * 10 ^ (fa - E).toNat < 10 ^ (M - 1) := by
    have h3 : (val a + 1) * 10 ^ (fa - E).toNat ≤ 10 ^ a.length * 10 ^ (fa - E).toNat := Nat.mul_le_mul_right _ b1
    have h4 : (10 : Nat) ^ (a.length + (fa - E).toNat) ≤ 10 ^ (M - 1) := Nat.pow_le_pow_right (by omega) (by omega)
    have h5 : 0 < 10 ^ (fa - E).toNat := Nat.pow_pos (by omega)
    rw [Nat.add_mul, ← Nat.pow_add] at h3
    omega
  have s2 : val b * 10 ^ (fb - E).toNat < 10 ^ (M - 1) := by
    have h3 : (val b + 1) * 10 ^ (fb - E).toNat ≤ 10 ^ b.length * 10 ^ (fb - E).toNat := Nat.mul_le_mul_right _ b2
    have h4 : (10 : Nat) ^ (b.length + (fb - E).toNat) ≤ 10 ^ (M - 1) := Nat.pow_le_pow_right (by omega) (by omega)
    have h5 : 0 < 10 ^ (fb - E).toNat := Nat.pow_pos (by omega)
    rw [Nat.add_mul, ← Nat.pow_add] at h3
    omega
  have hp : (10 : Nat) ^ M = 10 ^ (M - 1) * 10 := by rw [← Nat.pow_succ]; congr 1; omega
  refine ⟨by rw [l1, l2], digs_wideL ha _ _, digs_wideL hb _ _, ?_, ?_, by rw [l1, v1, v2, hp]; omega, by omega⟩
  · rw [v1, ← hE]
    by_cases h : a = []
    · subst h; simp
    · rw [h1 h]
  · rw [v2, ← hE]
    by_cases h : b = []
    · subst h; simp
    · rw [h2 h]

theorem below_drew (W : World) : Below W.heap.size W W.drew := ⟨rfl, rfl, rfl, Nat.le_refl _, fun _ _ => rfl⟩
theorem pair_read {w W0 wc : World} {A : Option Addr} {c : Nat} {a : List Nat} {R : Prop} (hI : IntsAt w w.heap.size A c a) (hb : Below w.heap.size w W0) (hS : Below W0.heap.size W0 wc ∧ R) : IntsAt wc wc.heap.size A c a :=
  (hI.below (up hb hS.1) (Nat.le_refl _)).more (Nat.le_trans hb.size hS.1.size)
theorem pair_keep {W0 w1 w2 : World} {n : Nat} {v0 v1 v2 u0 u1 u2 : Value} (hn : n + 1 < W0.heap.size)
    (hS : Below W0.heap.size W0 w1 ∧ w1.cell? ⟨n, 0, none⟩ = some v0 ∧ w1.cell? ⟨n, 1, none⟩ = some v1 ∧ w1.cell? ⟨n, 2, none⟩ = some v2 ∧ w1.cell? ⟨n + 1, 0, none⟩ = some u0 ∧ w1.cell? ⟨n + 1, 1, none⟩ = some u1 ∧ w1.cell? ⟨n + 1, 2, none⟩ = some u2) (hb : Below w1.heap.size w1 w2) :
    Below W0.heap.size W0 w2 ∧ w2.cell? ⟨n, 0, none⟩ = some v0 ∧ w2.cell? ⟨n, 1, none⟩ = some v1 ∧ w2.cell? ⟨n, 2, none⟩ = some v2 ∧ w2.cell? ⟨n + 1, 0, none⟩ = some u0 ∧ w2.cell? ⟨n + 1, 1, none⟩ = some u1 ∧ w2.cell? ⟨n + 1, 2, none⟩ = some u2 := by
  obtain ⟨h, h0, h1, h2, h3, h4, h5⟩ := hS
  have e : ∀ (b o : Nat), b < W0.heap.size → w2.cell? ⟨b, o, none⟩ = w1.cell? ⟨b, o, none⟩ := fun b o hlt => hb.cell (p := ⟨b, o, none⟩) (Nat.lt_of_lt_of_le hlt h.size)
  exact ⟨up h hb, (e _ _ (by omega)).trans h0, (e _ _ (by omega)).trans h1, (e _ _ (by omega)).trans h2, (e _ _ hn).trans h3, (e _ _ hn).trans h4, (e _ _ hn).trans h5⟩
theorem wide_at (neg : Bool) (A : Option Addr) (c : Nat) (ds : List Nat) (n : Nat) (xe e : Int) (many : Int) (hn : n = ds.length) (hl : n ≤ 10000) (he : -10000 ≤ e ∧ xe ≤ 10000) (h0 : 0 ≤ many) (hm : many ≤ 100000) (w : World) (hI : IntsAt w w.heap.size A c ds) :
    Calls Tryd.prog 145 #[.agg #[.bool neg, .slice A n c, .int .i64 xe], .int .i64 e, .int .i64 many] w fun r w' =>
      ∃ A' c', r = .returned (.slice A' (wideL ds (xe - e).toNat many.toNat).length c') ∧ IntsAt w' w'.heap.size A' c' (wideL ds (xe - e).toNat many.toNat) ∧ Below w.heap.size w w' := by
  obtain ⟨m, rfl⟩ := Int.eq_ofNat_of_zero_le h0
  subst hn
  exact ref_wide neg A c ds xe e m hl he (by omega) w hI

/-- pair, case by case -/
theorem pair_cases : True := trivial
set_option maxRecDepth 100000 in
set_option maxHeartbeats 4000000 in
theorem pair_both (na nb : Bool) (A B : Option Addr) (c d : Nat) (a b : List Nat) (n m : Nat) (ea eb : Int) (hn : n = a.length) (hm : m = b.length) (ha : Digs a) (hb : Digs b) (hla : n ≤ 1000) (hlb : m ≤ 1000) (h0 : -1000 ≤ ea) (h1 : ea ≤ 1000) (h2 : -1000 ≤ eb) (h3 : eb ≤ 1000)
    (hna : ((n : Int) == 0) = false) (hmb : ((m : Int) == 0) = false)
    (w : World) (hI : IntsAt w w.heap.size A c a) (hJ : IntsAt w w.heap.size B d b) :
    Calls Tryd.prog 113 #[.agg #[.bool na, .slice A n c, .int .i64 ea], .agg #[.bool nb, .slice B m d, .int .i64 eb]] w fun r w' =>
      ∃ A' B' c' d' x y, r = .returned (.tuple #[.slice A' x.length c', .slice B' y.length d', .int .i64 (pairE a b ea eb)]) ∧ PairOut a b ea eb x y ∧ IntsAt w' w'.heap.size A' c' x ∧ IntsAt w' w'.heap.size B' d' y ∧ Below w.heap.size w w' := by
  have HI := Keep.mk hI
  have HJ := Keep.mk hJ
  have HA := Keep.mk ha
  have HB := Keep.mk hb
  have HN := Keep.mk hn
  have HM := Keep.mk hm
  clear hI hJ ha hb hn hm
  have HE := Keep.mk (show low ea eb = pairE a b ea eb by
    unfold pairE
    rw [if_neg (by intro h; subst h; rw [HM.out] at hmb; cases hmb), if_neg (by intro h; subst h; rw [HN.out] at hna; cases hna)])
  have hlo := low_le ea eb
  have hlo2 : low ea eb = ea ∨ low ea eb = eb := by unfold low; split <;> simp
  go_enter Tryd.func113, Tryd.ntmps113
  go_wp2_with fail
  refine (ref_least _ _ _).mono ?_
  rintro r W ⟨rfl, hb1⟩
  generalize low ea eb = E at *
  have HX := ((Box.new (w := w) [.bool na, .slice A n c, .int .i64 ea] 86 rfl).alloc (.cells #[.bool nb, .slice B m d, .int .i64 eb] 86)).below hb1 (by simp only [World.size_alloc]; omega)
  have HY := (Box.new (w := w.alloc (.cells #[.bool na, .slice A n c, .int .i64 ea] 86)) (n := w.heap.size + 1) [.bool nb, .slice B m d, .int .i64 eb] 86 (by simp)).below hb1 (by simp only [World.size_alloc]; omega)
  have hbw := up (al2 w _ _) hb1
  clear hb1
  have x1 := HX.cell 1 _ rfl
  have x2 := HX.cell 2 _ rfl
  have y1 := HY.cell 1 _ rfl
  have y2 := HY.cell 2 _ rfl
  have fx2 := HX.froz 2
  have fy2 := HY.froz 2
  have ltx := HX.lt
  have lty := HY.lt
  go_wp2_with fail
  all_goals
    refine wp_world (fun W0 => Box W0 w.heap.size [.bool na, .slice A n c, .int .i64 ea] ∧ Box W0 (w.heap.size + 1) [.bool nb, .slice B m d, .int .i64 eb] ∧ Below w.heap.size w W0) ⟨HX, HY, hbw⟩ ?_
    clear HX HY hbw x1 x2 y1 y2 fx2 fy2 ltx lty
    rintro W0 ⟨HX, HY, hbw⟩
    have x0 := HX.cell 0 _ rfl
    have x1 := HX.cell 1 _ rfl
    have x2 := HX.cell 2 _ rfl
    have y0 := HY.cell 0 _ rfl
    have y1 := HY.cell 1 _ rfl
    have y2 := HY.cell 2 _ rfl
    have lty := HY.lt
    go_region_held3 (fun w' => Below W0.heap.size W0 w' ∧ w'.cell? ⟨w.heap.size, 0, none⟩ = some (.bool na) ∧ w'.cell? ⟨w.heap.size, 1, none⟩ = some (.slice A n c) ∧ w'.cell? ⟨w.heap.size, 2, none⟩ = some (.int .i64 ea) ∧ w'.cell? ⟨w.heap.size + 1, 0, none⟩ = some (.bool nb) ∧ w'.cell? ⟨w.heap.size + 1, 1, none⟩ = some (.slice B m d) ∧ w'.cell? ⟨w.heap.size + 1, 2, none⟩ = some (.int .i64 eb))
      ((first | exact ⟨below_drew _, x0, x1, x2, y0, y1, y2⟩ | exact pair_keep lty (by assumption) (by assumption)))
      ((first
        | (go_at_call_of 145 (Value.agg #[.bool na, .slice A n c, .int .i64 ea]); refine (wide_at na A c a n ea E _ HN.out (by omega) (by omega) (by omega) (by omega) _ (pair_read HI.out hbw (by assumption))).mono ?_; rintro r w2 ⟨A1, c1, rfl, hI1, hb1⟩)
        | (go_at_call_of 145 (Value.agg #[.bool nb, .slice B m d, .int .i64 eb]); refine (wide_at nb B d b m eb E _ HM.out (by omega) (by omega) (by omega) (by omega) _ (pair_read HJ.out hbw (by assumption))).mono ?_; rintro r w3 ⟨A2, c2, rfl, hI2, hb2⟩)))
    all_goals
      go_wp2
      go_ret3
      (try simp only [Int.sub_self, Int.toNat_zero] at hI1 hI2)
      exact ⟨A1, A2, c1, c2, _, _, (by rw [← HE.out]; rfl), pair_out a b ea eb ea eb E _ _ _ (by simp) (by simp) HA.out HB.out HE.out (fun _ => rfl) (fun _ => rfl) (by have := HN.out; omega) (by have := HM.out; omega) (by omega), (hI1.below hb2 (Nat.le_refl _)).more hb2.size, hI2, up hbw (And.left (by assumption))⟩

set_option maxRecDepth 100000 in
set_option maxHeartbeats 4000000 in
theorem pair_none (na nb : Bool) (A B : Option Addr) (c d : Nat) (a b : List Nat) (n m : Nat) (ea eb : Int) (hn : n = a.length) (hm : m = b.length) (ha : Digs a) (hb : Digs b) (hla : n ≤ 1000) (hlb : m ≤ 1000) (h0 : -1000 ≤ ea) (h1 : ea ≤ 1000) (_h2 : -1000 ≤ eb) (_h3 : eb ≤ 1000)
    (hna : ((n : Int) == 0) = true) (hmb : ((m : Int) == 0) = true)
    (w : World) (hI : IntsAt w w.heap.size A c a) (hJ : IntsAt w w.heap.size B d b) :
    Calls Tryd.prog 113 #[.agg #[.bool na, .slice A n c, .int .i64 ea], .agg #[.bool nb, .slice B m d, .int .i64 eb]] w fun r w' =>
      ∃ A' B' c' d' x y, r = .returned (.tuple #[.slice A' x.length c', .slice B' y.length d', .int .i64 (pairE a b ea eb)]) ∧ PairOut a b ea eb x y ∧ IntsAt w' w'.heap.size A' c' x ∧ IntsAt w' w'.heap.size B' d' y ∧ Below w.heap.size w w' := by
  have HI := Keep.mk hI
  have HJ := Keep.mk hJ
  have HA := Keep.mk ha
  have HB := Keep.mk hb
  have HN := Keep.mk hn
  have HM := Keep.mk hm
  clear hI hJ ha hb hn hm
  have hn0 : n < 1 := by simp at hna; omega
  have hm0 : m < 1 := by simp at hmb; omega
  have HA0 := Keep.mk (show a = [] from List.eq_nil_of_length_eq_zero (by rw [← HN.out]; omega))
  have HB0 := Keep.mk (show b = [] from List.eq_nil_of_length_eq_zero (by rw [← HM.out]; omega))
  have HE := Keep.mk (show ea = pairE a b ea eb by unfold pairE; rw [if_pos HB0.out])
  go_enter Tryd.func113, Tryd.ntmps113
  go_wp2_with fail
  refine (ref_least _ _ _).mono ?_
  rintro r W ⟨rfl, hb1⟩

  have HX := ((Box.new (w := w) [.bool na, .slice A n c, .int .i64 ea] 86 rfl).alloc (.cells #[.bool nb, .slice B m d, .int .i64 eb] 86)).below hb1 (by simp only [World.size_alloc]; omega)
  have HY := (Box.new (w := w.alloc (.cells #[.bool na, .slice A n c, .int .i64 ea] 86)) (n := w.heap.size + 1) [.bool nb, .slice B m d, .int .i64 eb] 86 (by simp)).below hb1 (by simp only [World.size_alloc]; omega)
  have hbw := up (al2 w _ _) hb1
  clear hb1
  have x1 := HX.cell 1 _ rfl
  have x2 := HX.cell 2 _ rfl
  have y1 := HY.cell 1 _ rfl
  have y2 := HY.cell 2 _ rfl
  have fx2 := HX.froz 2
  have fy2 := HY.froz 2
  have ltx := HX.lt
  have lty := HY.lt
  go_wp2_with fail
  all_goals
    refine wp_world (fun W0 => Box W0 w.heap.size [.bool na, .slice A n c, .int .i64 ea] ∧ Box W0 (w.heap.size + 1) [.bool nb, .slice B m d, .int .i64 ea] ∧ Below w.heap.size w W0) ⟨(HX.set (by simp) _).other (by omega) _, (HY.other (by omega) _).set (by simp) _, st1 (st1 hbw _ _ _ (by omega)) _ _ _ (by omega)⟩ ?_
    clear HX HY hbw x1 x2 y1 y2 fx2 fy2 ltx lty
    rintro W0 ⟨HX, HY, hbw⟩
    have x0 := HX.cell 0 _ rfl
    have x1 := HX.cell 1 _ rfl
    have x2 := HX.cell 2 _ rfl
    have y0 := HY.cell 0 _ rfl
    have y1 := HY.cell 1 _ rfl
    have y2 := HY.cell 2 _ rfl
    have lty := HY.lt
    go_region_held3 (fun w' => Below W0.heap.size W0 w' ∧ w'.cell? ⟨w.heap.size, 0, none⟩ = some (.bool na) ∧ w'.cell? ⟨w.heap.size, 1, none⟩ = some (.slice A n c) ∧ w'.cell? ⟨w.heap.size, 2, none⟩ = some (.int .i64 ea) ∧ w'.cell? ⟨w.heap.size + 1, 0, none⟩ = some (.bool nb) ∧ w'.cell? ⟨w.heap.size + 1, 1, none⟩ = some (.slice B m d) ∧ w'.cell? ⟨w.heap.size + 1, 2, none⟩ = some (.int .i64 ea))
      ((first | exact ⟨below_drew _, x0, x1, x2, y0, y1, y2⟩ | exact pair_keep lty (by assumption) (by assumption)))
      ((first
        | (go_at_call_of 145 (Value.agg #[.bool na, .slice A n c, .int .i64 ea]); refine (wide_at na A c a n ea ea _ HN.out (by omega) (by omega) (by omega) (by omega) _ (pair_read HI.out hbw (by assumption))).mono ?_; rintro r w2 ⟨A1, c1, rfl, hI1, hb1⟩)
        | (go_at_call_of 145 (Value.agg #[.bool nb, .slice B m d, .int .i64 ea]); refine (wide_at nb B d b m ea ea _ HM.out (by omega) (by omega) (by omega) (by omega) _ (pair_read HJ.out hbw (by assumption))).mono ?_; rintro r w3 ⟨A2, c2, rfl, hI2, hb2⟩)))
    all_goals
      go_wp2
      go_ret3
      (try simp only [Int.sub_self, Int.toNat_zero] at hI1 hI2)
      exact ⟨A1, A2, c1, c2, _, _, (by rw [← HE.out]; rfl), pair_out a b ea eb ea ea ea _ _ _ (by simp) (by simp) HA.out HB.out HE.out (fun h => absurd HA0.out h) (fun h => absurd HB0.out h) (by have := HN.out; omega) (by have := HM.out; omega) (by omega), (hI1.below hb2 (Nat.le_refl _)).more hb2.size, hI2, up hbw (And.left (by assumption))⟩

set_option maxRecDepth 100000 in
set_option maxHeartbeats 4000000 in
theorem pair_left (na nb : Bool) (A B : Option Addr) (c d : Nat) (a b : List Nat) (n m : Nat) (ea eb : Int) (hn : n = a.length) (hm : m = b.length) (ha : Digs a) (hb : Digs b) (hla : n ≤ 1000) (hlb : m ≤ 1000) (_h0 : -1000 ≤ ea) (_h1 : ea ≤ 1000) (h2 : -1000 ≤ eb) (h3 : eb ≤ 1000)
    (hna : ((n : Int) == 0) = true) (hmb : ((m : Int) == 0) = false)
    (w : World) (hI : IntsAt w w.heap.size A c a) (hJ : IntsAt w w.heap.size B d b) :
    Calls Tryd.prog 113 #[.agg #[.bool na, .slice A n c, .int .i64 ea], .agg #[.bool nb, .slice B m d, .int .i64 eb]] w fun r w' =>
      ∃ A' B' c' d' x y, r = .returned (.tuple #[.slice A' x.length c', .slice B' y.length d', .int .i64 (pairE a b ea eb)]) ∧ PairOut a b ea eb x y ∧ IntsAt w' w'.heap.size A' c' x ∧ IntsAt w' w'.heap.size B' d' y ∧ Below w.heap.size w w' := by
  have HI := Keep.mk hI
  have HJ := Keep.mk hJ
  have HA := Keep.mk ha
  have HB := Keep.mk hb
  have HN := Keep.mk hn
  have HM := Keep.mk hm
  clear hI hJ ha hb hn hm
  have hn0 : n < 1 := by simp at hna; omega
  have hm0 : 0 < m := by simp at hmb; omega
  have HA0 := Keep.mk (show a = [] from List.eq_nil_of_length_eq_zero (by rw [← HN.out]; omega))
  have HE := Keep.mk (show eb = pairE a b ea eb by unfold pairE; rw [if_neg (by intro h; have := HM.out; rw [h] at this; simp at this; omega), if_pos HA0.out])
  go_enter Tryd.func113, Tryd.ntmps113
  go_wp2_with fail
  refine (ref_least _ _ _).mono ?_
  rintro r W ⟨rfl, hb1⟩

  have HX := ((Box.new (w := w) [.bool na, .slice A n c, .int .i64 ea] 86 rfl).alloc (.cells #[.bool nb, .slice B m d, .int .i64 eb] 86)).below hb1 (by simp only [World.size_alloc]; omega)
  have HY := (Box.new (w := w.alloc (.cells #[.bool na, .slice A n c, .int .i64 ea] 86)) (n := w.heap.size + 1) [.bool nb, .slice B m d, .int .i64 eb] 86 (by simp)).below hb1 (by simp only [World.size_alloc]; omega)
  have hbw := up (al2 w _ _) hb1
  clear hb1
  have x1 := HX.cell 1 _ rfl
  have x2 := HX.cell 2 _ rfl
  have y1 := HY.cell 1 _ rfl
  have y2 := HY.cell 2 _ rfl
  have fx2 := HX.froz 2
  have fy2 := HY.froz 2
  have ltx := HX.lt
  have lty := HY.lt
  go_wp2_with fail
  all_goals
    refine wp_world (fun W0 => Box W0 w.heap.size [.bool na, .slice A n c, .int .i64 eb] ∧ Box W0 (w.heap.size + 1) [.bool nb, .slice B m d, .int .i64 eb] ∧ Below w.heap.size w W0) ⟨HX.set (by simp) _, HY.other (by omega) _, st1 hbw _ _ _ (by omega)⟩ ?_
    clear HX HY hbw x1 x2 y1 y2 fx2 fy2 ltx lty
    rintro W0 ⟨HX, HY, hbw⟩
    have x0 := HX.cell 0 _ rfl
    have x1 := HX.cell 1 _ rfl
    have x2 := HX.cell 2 _ rfl
    have y0 := HY.cell 0 _ rfl
    have y1 := HY.cell 1 _ rfl
    have y2 := HY.cell 2 _ rfl
    have lty := HY.lt
    go_region_held3 (fun w' => Below W0.heap.size W0 w' ∧ w'.cell? ⟨w.heap.size, 0, none⟩ = some (.bool na) ∧ w'.cell? ⟨w.heap.size, 1, none⟩ = some (.slice A n c) ∧ w'.cell? ⟨w.heap.size, 2, none⟩ = some (.int .i64 eb) ∧ w'.cell? ⟨w.heap.size + 1, 0, none⟩ = some (.bool nb) ∧ w'.cell? ⟨w.heap.size + 1, 1, none⟩ = some (.slice B m d) ∧ w'.cell? ⟨w.heap.size + 1, 2, none⟩ = some (.int .i64 eb))
      ((first | exact ⟨below_drew _, x0, x1, x2, y0, y1, y2⟩ | exact pair_keep lty (by assumption) (by assumption)))
      ((first
        | (go_at_call_of 145 (Value.agg #[.bool na, .slice A n c, .int .i64 eb]); refine (wide_at na A c a n eb eb _ HN.out (by omega) (by omega) (by omega) (by omega) _ (pair_read HI.out hbw (by assumption))).mono ?_; rintro r w2 ⟨A1, c1, rfl, hI1, hb1⟩)
        | (go_at_call_of 145 (Value.agg #[.bool nb, .slice B m d, .int .i64 eb]); refine (wide_at nb B d b m eb eb _ HM.out (by omega) (by omega) (by omega) (by omega) _ (pair_read HJ.out hbw (by assumption))).mono ?_; rintro r w3 ⟨A2, c2, rfl, hI2, hb2⟩)))
    all_goals
      go_wp2
      go_ret3
      (try simp only [Int.sub_self, Int.toNat_zero] at hI1 hI2)
      exact ⟨A1, A2, c1, c2, _, _, (by rw [← HE.out]; rfl), pair_out a b ea eb eb eb eb _ _ _ (by simp) (by simp) HA.out HB.out HE.out (fun h => absurd HA0.out h) (fun _ => rfl) (by have := HN.out; omega) (by have := HM.out; omega) (by omega), (hI1.below hb2 (Nat.le_refl _)).more hb2.size, hI2, up hbw (And.left (by assumption))⟩

set_option maxRecDepth 100000 in
set_option maxHeartbeats 4000000 in
theorem pair_right (na nb : Bool) (A B : Option Addr) (c d : Nat) (a b : List Nat) (n m : Nat) (ea eb : Int) (hn : n = a.length) (hm : m = b.length) (ha : Digs a) (hb : Digs b) (hla : n ≤ 1000) (hlb : m ≤ 1000) (h0 : -1000 ≤ ea) (h1 : ea ≤ 1000) (_h2 : -1000 ≤ eb) (_h3 : eb ≤ 1000)
    (hna : ((n : Int) == 0) = false) (hmb : ((m : Int) == 0) = true)
    (w : World) (hI : IntsAt w w.heap.size A c a) (hJ : IntsAt w w.heap.size B d b) :
    Calls Tryd.prog 113 #[.agg #[.bool na, .slice A n c, .int .i64 ea], .agg #[.bool nb, .slice B m d, .int .i64 eb]] w fun r w' =>
      ∃ A' B' c' d' x y, r = .returned (.tuple #[.slice A' x.length c', .slice B' y.length d', .int .i64 (pairE a b ea eb)]) ∧ PairOut a b ea eb x y ∧ IntsAt w' w'.heap.size A' c' x ∧ IntsAt w' w'.heap.size B' d' y ∧ Below w.heap.size w w' := by
  have HI := Keep.mk hI
  have HJ := Keep.mk hJ
  have HA := Keep.mk ha
  have HB := Keep.mk hb
  have HN := Keep.mk hn
  have HM := Keep.mk hm
  clear hI hJ ha hb hn hm
  have hm0 : m < 1 := by simp at hmb; omega
  have hn0 : 0 < n := by simp at hna; omega
  have HB0 := Keep.mk (show b = [] from List.eq_nil_of_length_eq_zero (by rw [← HM.out]; omega))
  have HE := Keep.mk (show ea = pairE a b ea eb by unfold pairE; rw [if_pos HB0.out])
  go_enter Tryd.func113, Tryd.ntmps113
  go_wp2_with fail
  refine (ref_least _ _ _).mono ?_
  rintro r W ⟨rfl, hb1⟩

  have HX := ((Box.new (w := w) [.bool na, .slice A n c, .int .i64 ea] 86 rfl).alloc (.cells #[.bool nb, .slice B m d, .int .i64 eb] 86)).below hb1 (by simp only [World.size_alloc]; omega)
  have HY := (Box.new (w := w.alloc (.cells #[.bool na, .slice A n c, .int .i64 ea] 86)) (n := w.heap.size + 1) [.bool nb, .slice B m d, .int .i64 eb] 86 (by simp)).below hb1 (by simp only [World.size_alloc]; omega)
  have hbw := up (al2 w _ _) hb1
  clear hb1
  have x1 := HX.cell 1 _ rfl
  have x2 := HX.cell 2 _ rfl
  have y1 := HY.cell 1 _ rfl
  have y2 := HY.cell 2 _ rfl
  have fx2 := HX.froz 2
  have fy2 := HY.froz 2
  have ltx := HX.lt
  have lty := HY.lt
  go_wp2_with fail
  all_goals
    refine wp_world (fun W0 => Box W0 w.heap.size [.bool na, .slice A n c, .int .i64 ea] ∧ Box W0 (w.heap.size + 1) [.bool nb, .slice B m d, .int .i64 ea] ∧ Below w.heap.size w W0) ⟨HX.other (by omega) _, HY.set (by simp) _, st1 hbw _ _ _ (by omega)⟩ ?_
    clear HX HY hbw x1 x2 y1 y2 fx2 fy2 ltx lty
    rintro W0 ⟨HX, HY, hbw⟩
    have x0 := HX.cell 0 _ rfl
    have x1 := HX.cell 1 _ rfl
    have x2 := HX.cell 2 _ rfl
    have y0 := HY.cell 0 _ rfl
    have y1 := HY.cell 1 _ rfl
    have y2 := HY.cell 2 _ rfl
    have lty := HY.lt
    go_region_held3 (fun w' => Below W0.heap.size W0 w' ∧ w'.cell? ⟨w.heap.size, 0, none⟩ = some (.bool na) ∧ w'.cell? ⟨w.heap.size, 1, none⟩ = some (.slice A n c) ∧ w'.cell? ⟨w.heap.size, 2, none⟩ = some (.int .i64 ea) ∧ w'.cell? ⟨w.heap.size + 1, 0, none⟩ = some (.bool nb) ∧ w'.cell? ⟨w.heap.size + 1, 1, none⟩ = some (.slice B m d) ∧ w'.cell? ⟨w.heap.size + 1, 2, none⟩ = some (.int .i64 ea))
      ((first | exact ⟨below_drew _, x0, x1, x2, y0, y1, y2⟩ | exact pair_keep lty (by assumption) (by assumption)))
      ((first
        | (go_at_call_of 145 (Value.agg #[.bool na, .slice A n c, .int .i64 ea]); refine (wide_at na A c a n ea ea _ HN.out (by omega) (by omega) (by omega) (by omega) _ (pair_read HI.out hbw (by assumption))).mono ?_; rintro r w2 ⟨A1, c1, rfl, hI1, hb1⟩)
        | (go_at_call_of 145 (Value.agg #[.bool nb, .slice B m d, .int .i64 ea]); refine (wide_at nb B d b m ea ea _ HM.out (by omega) (by omega) (by omega) (by omega) _ (pair_read HJ.out hbw (by assumption))).mono ?_; rintro r w3 ⟨A2, c2, rfl, hI2, hb2⟩)))
    all_goals
      go_wp2
      go_ret3
      (try simp only [Int.sub_self, Int.toNat_zero] at hI1 hI2)
      exact ⟨A1, A2, c1, c2, _, _, (by rw [← HE.out]; rfl), pair_out a b ea eb ea ea ea _ _ _ (by simp) (by simp) HA.out HB.out HE.out (fun _ => rfl) (fun h => absurd HB0.out h) (by have := HN.out; omega) (by have := HM.out; omega) (by omega), (hI1.below hb2 (Nat.le_refl _)).more hb2.size, hI2, up hbw (And.left (by assumption))⟩

theorem ref_pair (na nb : Bool) (A B : Option Addr) (c d : Nat) (a b : List Nat) (n m : Nat) (ea eb : Int) (hn : n = a.length) (hm : m = b.length) (ha : Digs a) (hb : Digs b) (hla : n ≤ 1000) (hlb : m ≤ 1000) (h0 : -1000 ≤ ea) (h1 : ea ≤ 1000) (h2 : -1000 ≤ eb) (h3 : eb ≤ 1000)
    (w : World) (hI : IntsAt w w.heap.size A c a) (hJ : IntsAt w w.heap.size B d b) :
    Calls Tryd.prog 113 #[.agg #[.bool na, .slice A n c, .int .i64 ea], .agg #[.bool nb, .slice B m d, .int .i64 eb]] w fun r w' =>
      ∃ A' B' c' d' x y, r = .returned (.tuple #[.slice A' x.length c', .slice B' y.length d', .int .i64 (pairE a b ea eb)]) ∧ PairOut a b ea eb x y ∧ IntsAt w' w'.heap.size A' c' x ∧ IntsAt w' w'.heap.size B' d' y ∧ Below w.heap.size w w' := by
  cases hna : ((n : Int) == 0) <;> cases hmb : ((m : Int) == 0)
  · exact pair_both na nb A B c d a b n m ea eb hn hm ha hb hla hlb h0 h1 h2 h3 hna hmb w hI hJ
  · exact pair_right na nb A B c d a b n m ea eb hn hm ha hb hla hlb h0 h1 h2 h3 hna hmb w hI hJ
  · exact pair_left na nb A B c d a b n m ea eb hn hm ha hb hla hlb h0 h1 h2 h3 hna hmb w hI hJ
  · exact pair_none na nb A B c d a b n m ea eb hn hm ha hb hla hlb h0 h1 h2 h3 hna hmb w hI hJ
end Go.Proofs.YtljemfajjeoecaaDoor
