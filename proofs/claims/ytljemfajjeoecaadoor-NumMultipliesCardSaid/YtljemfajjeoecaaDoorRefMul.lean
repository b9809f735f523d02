/- The references' Mul. Conditions: the numbers are of int64 and int. -/
import Derived.Test.YtljemfajjeoecaaDoorRefSum
import Derived.Test.YtljemfajjeoecaaDoorRefPlus
import Derived.Test.YtljemfajjeoecaaDoorTail
import Derived.Test.YtljemfajjeoecaaDoorLaw
import Derived.IntWalk
namespace Go.Proofs.YtljemfajjeoecaaDoor
open Go Go.RowKit Go.Proofs Th
attribute [local go_sem] Above.cell Above.frozen

theorem mul_norm {m1 e1 m2 e2 : Int} {os : List Nat} (h1 : right m1 e1 = true) (h2 : right m2 e2 = true) (hv : val os = m1.natAbs * m2.natAbs) :
    norm (decide (m1 < 0) != decide (m2 < 0)) (val os) (e1 + e2) = mulN m1 e1 m2 e2 := by
  unfold mulN
  rw [h1, h2, hv]
  simp only [Bool.and_self, ↓reduceIte]
  apply norm_eq
  · rw [Int.natAbs_mul]
  · intro h0
    have n1 : m1 ≠ 0 := by rintro rfl; simp at h0
    have n2 : m2 ≠ 0 := by rintro rfl; simp at h0
    by_cases a : m1 < 0 <;> by_cases b : m2 < 0
    · have := Int.mul_pos_of_neg_of_neg a b
      simp [a, b]; omega
    · have := Int.mul_neg_of_neg_of_pos a (show 0 < m2 by omega)
      simp [a, b]; omega
    · have := Int.mul_neg_of_pos_of_neg (show 0 < m1 by omega) b
      simp [a, b]; omega
    · have := Int.mul_pos (show 0 < m1 by omega) (show 0 < m2 by omega)
      simp [a, b]; omega

/-- the rows of a product in the making: i of the first's digits and k of the second's are still to come -/
structure MulI (a b : List Nat) (i : Nat) (os : List Nat) : Prop where
  len : os.length = a.length + b.length + 1
  v : val os = val (a.drop i) * val b
  sum : os.sum ≤ 1539 * (a.length - i)
structure MulK (a b : List Nat) (i x k : Nat) (os : List Nat) : Prop where
  len : os.length = a.length + b.length + 1
  v : val os = val (a.drop (i + 1)) * val b + x * val (b.drop k) * 10 ^ (a.length - 1 - i)
  sum : os.sum ≤ 1539 * (a.length - 1 - i) + 81 * (b.length - k)
theorem MulI.start (a b : List Nat) : MulI a b a.length (List.replicate (a.length + b.length + 1) 0) := by
  refine ⟨by simp, ?_, by simp⟩
  have h := val_zeros (a.length + b.length + 1) []
  rw [List.append_nil] at h
  rw [h, List.drop_length]; simp
theorem MulK.start {a b : List Nat} {i : Nat} {os : List Nat} (h : MulI a b (i + 1) os) (hi : i < a.length) (x : Nat) : MulK a b i x b.length os :=
  ⟨h.len, by rw [h.v, List.drop_length]; simp, by have := h.sum; rw [show a.length - (i + 1) = a.length - 1 - i by omega] at this; omega⟩
theorem MulK.done {a b : List Nat} {i : Nat} {os : List Nat} (hi : i < a.length) (h : MulK a b i a[i] 0 os) (hb : b.length ≤ 19) : MulI a b i os := by
  refine ⟨h.len, ?_, by have := h.sum; omega⟩
  rw [h.v, List.drop_zero, List.drop_eq_getElem_cons hi, val_cons, List.length_drop, Nat.add_mul, show a.length - (i + 1) = a.length - 1 - i by omega]
  rw [Nat.mul_assoc, Nat.mul_comm (val b), ← Nat.mul_assoc]
  omega
theorem MulK.step {a b : List Nat} {i x k : Nat} {os : List Nat} (h : MulK a b i x (k + 1) os) (hi : i < a.length) (hk : k < b.length) (hx : x ≤ 9) (hy : b[k] ≤ 9) : MulK a b i x k (carry os (i + k + 1) (x * b[k])) := by
  have hl : i + k + 1 + 1 < os.length := by rw [h.len]; omega
  refine ⟨by rw [length_carry]; exact h.len, ?_, ?_⟩
  · rw [val_carry _ _ _ hl, h.v, List.drop_eq_getElem_cons hk, val_cons, List.length_drop, h.len]
    have e1 : a.length + b.length + 1 - 2 - (i + k + 1) = (b.length - (k + 1)) + (a.length - 1 - i) := by omega
    rw [e1, Nat.pow_add, Nat.mul_add, Nat.add_mul]
    have e2 : x * b[k] * (10 ^ (b.length - (k + 1)) * 10 ^ (a.length - 1 - i)) = x * (b[k] * 10 ^ (b.length - (k + 1))) * 10 ^ (a.length - 1 - i) := by
      rw [← Nat.mul_assoc, Nat.mul_assoc x]
    rw [e2]
    omega
  · have h1 := sum_carry os (i + k + 1) (x * b[k]) hl
    have h2 := h.sum
    have h3 : x * b[k] ≤ 9 * 9 := Nat.mul_le_mul hx hy
    omega
theorem MulK.small {a b : List Nat} {i x k : Nat} {os : List Nat} (h : MulK a b i x k os) (ha : a.length ≤ 19) (hb : b.length ≤ 19) : os.sum ≤ 40000 := by have := h.sum; omega
/-- the last loop: from place i on all are digits -/
structure MulZ (a b : List Nat) (i : Nat) (os : List Nat) : Prop where
  len : os.length = a.length + b.length + 1
  v : val os = val a * val b
  sum : os.sum ≤ 40000
  dig : ∀ j, i < j → os.getD j 0 ≤ 9
theorem MulZ.start {a b : List Nat} {os : List Nat} (h : MulI a b 0 os) (ha : a.length ≤ 19) : MulZ a b (a.length + b.length) os :=
  ⟨h.len, by rw [h.v]; rfl, by have := h.sum; omega, fun j hj => by
    have hl := h.len
    simp [show os.length ≤ j by omega]⟩
theorem MulZ.step {a b : List Nat} {i : Nat} {os : List Nat} (h : MulZ a b (i + 1) os) (hi : i + 1 < os.length) : MulZ a b i (carry os i 0) := by
  refine ⟨by rw [length_carry]; exact h.len, by rw [val_carry _ _ _ hi, h.v]; simp, by have := sum_carry os i 0 hi; have := h.sum; omega, fun j hj => ?_⟩
  by_cases hj1 : j = i + 1
  · subst hj1; exact getD_carry_at os i 0 hi
  · rw [getD_carry_behind os i 0 hi j (by omega)]; exact h.dig j (by omega)
theorem MulZ.done {a b : List Nat} {os : List Nat} (h : MulZ a b 0 os) (ha : Digs a) (hb : Digs b) : Digs os := by
  refine digs_of_small os (by rw [h.len]; omega) (fun j hj => h.dig j (by omega)) ?_
  have h1 := val_lt a ha
  have h2 := val_lt b hb
  rw [h.v, h.len, show a.length + b.length + 1 - 1 = a.length + b.length by omega, Nat.pow_add]
  exact Nat.mul_lt_mul_of_lt_of_lt h1 h2
theorem carry_map (os : List Nat) (p t : Nat) (_h : p + 1 < os.length) (u1 u2 u3 : Value) (h1 : u1 = iv (os.getD (p + 1) 0 + t)) (h2 : u2 = iv (os.getD p 0 + (os.getD (p + 1) 0 + t) / 10)) (h3 : u3 = iv ((os.getD (p + 1) 0 + t) % 10)) :
    (((os.map iv).set (p + 1) u1).set p u2).set (p + 1) u3 = (carry os p t).map iv := by
  subst h1 h2 h3
  unfold carry
  rw [List.map_set, List.map_set, List.set_comm _ _ (by omega : p + 1 ≠ p), List.set_set]
theorem carry_map2 (os : List Nat) (p : Nat) (u2 u3 : Value) (h2 : u2 = iv (os.getD p 0 + os.getD (p + 1) 0 / 10)) (h3 : u3 = iv (os.getD (p + 1) 0 % 10)) :
    ((os.map iv).set p u2).set (p + 1) u3 = (carry os p 0).map iv := by
  subst h2 h3
  unfold carry
  rw [List.map_set, List.map_set]
  rfl
theorem carry_box {W : World} {g p q t : Nat} {os : List Nat} {u1 u2 u3 : Value} (h : Box W g (((os.map iv).set q u1).set p u2)) (hq : q = p + 1) (hl : q < os.length) (h1 : u1 = iv (os.getD q 0 + t)) (h2 : u2 = iv (os.getD p 0 + (os.getD q 0 + t) / 10)) (h3 : u3 = iv ((os.getD q 0 + t) % 10)) :
    Box (W.setCell ⟨g, q, none⟩ u3) g ((carry os p t).map iv) := by
  subst hq
  rw [← carry_map os p t hl u1 u2 u3 h1 h2 h3]
  exact h.set (by simp; omega) _
theorem carry_box2 {W : World} {g p q : Nat} {os : List Nat} {u2 u3 : Value} (h : Box W g ((os.map iv).set p u2)) (hq : q = p + 1) (hl : q < os.length) (h2 : u2 = iv (os.getD p 0 + os.getD q 0 / 10)) (h3 : u3 = iv (os.getD q 0 % 10)) :
    Box (W.setCell ⟨g, q, none⟩ u3) g ((carry os p 0).map iv) := by
  subst hq
  rw [← carry_map2 os p u2 u3 h2 h3]
  exact h.set (by simp; omega) _
theorem short_n (neg : Bool) (A : Option Addr) (c : Nat) (ds : List Nat) (n : Nat) (hn : n = ds.length) (e : Int) (hd : Digs ds) (hl : ds.length ≤ 1000000) (he : -1000000000 ≤ e ∧ e ≤ 1000000000) (p q k : Int) (h : norm neg (val ds) e = ((p, q), k)) (w : World) (hI : IntsAt w w.heap.size A c ds) :
    Calls Tryd.prog 63 #[.agg #[.bool neg, .slice A n c, .int .i64 e]] w fun r w' => r = .returned (.tuple #[.agg #[.int .i64 p, .int .i64 q], .int .i64 k]) ∧ Below w.heap.size w w' := by
  subst hn; exact short_as neg A c ds e hd hl he p q k h w hI
theorem cell_getD {w : World} {g i : Nat} {os : List Nat} (h : Box w g (os.map iv)) (hi : i < os.length) : w.cell? ⟨g, i, none⟩ = some (.int .i64 (os.getD i 0 : Nat)) := by
  have := h.cell i (iv os[i]) (by simp [hi])
  rw [getD_lt _ _ hi]; exact this

set_option maxRecDepth 100000 in
set_option maxHeartbeats 4000000 in
theorem rmul_bad1 (m1 e1 m2 e2 : Int) (hm1 : I64 m1) (_hm2 : I64 m2) (h1 : right m1 e1 = false) (w : World) : Calls Tryd.prog 38 #[.agg #[.int .i64 m1, .int .i64 e1], .agg #[.int .i64 m2, .int .i64 e2]] w fun r w' => r = .returned (numRes ((0, 0), 10)) ∧ Below w.heap.size w w' := by
  go_enter Tryd.func38, Tryd.ntmps38
  go_wp2_with fail
  refine (ref_Right m1 e1 hm1 _).mono ?_
  rw [h1]
  rintro r W1 ⟨rfl, hb⟩
  have Hx := Keep.mk ((((Box.new (w := w) (n := w.heap.size) [.int .i64 m1, .int .i64 e1] 23 (by first | rfl | simp)).alloc (.cells #[.int .i64 m2, .int .i64 e2] 23)).alloc (.cells #[.int .i64 0, .int .i64 0] 23)).below hb (by simp only [World.size_alloc]; omega))
  have Hy := Keep.mk (((Box.new (w := (w.alloc (.cells #[.int .i64 m1, .int .i64 e1] 23))) (n := w.heap.size + 1) [.int .i64 m2, .int .i64 e2] 23 (by first | rfl | simp)).alloc (.cells #[.int .i64 0, .int .i64 0] 23)).below hb (by simp only [World.size_alloc]; omega))
  have Hr := Keep.mk ((Box.new (w := ((w.alloc (.cells #[.int .i64 m1, .int .i64 e1] 23)).alloc (.cells #[.int .i64 m2, .int .i64 e2] 23))) (n := w.heap.size + 2) [.int .i64 0, .int .i64 0] 23 (by first | rfl | simp)).below hb (by simp only [World.size_alloc]; omega))
  have HB := Keep.mk (up (al3 w _ _ _) hb)
  have xc0 := Hx.out.cell 0 _ rfl
  have xf0 := Hx.out.froz 0
  have xc1 := Hx.out.cell 1 _ rfl
  have xf1 := Hx.out.froz 1
  have xl := Hx.out.lt
  have yc0 := Hy.out.cell 0 _ rfl
  have yf0 := Hy.out.froz 0
  have yc1 := Hy.out.cell 1 _ rfl
  have yf1 := Hy.out.froz 1
  have yl := Hy.out.lt
  have rc0 := Hr.out.cell 0 _ rfl
  have rf0 := Hr.out.froz 0
  have rc1 := Hr.out.cell 1 _ rfl
  have rf1 := Hr.out.froz 1
  have rl := Hr.out.lt
  go_wp2
  refine bodyPost_ret (v := numRes ((0, 0), 10)) ?_ rfl ⟨rfl, st1 (st1 HB.out _ _ _ (by omega)) _ _ _ (by omega)⟩
  simp [numRes, results, Tryd.results38, go_sem, rc0, rc1]
set_option maxRecDepth 100000 in
set_option maxHeartbeats 4000000 in
theorem rmul_bad2 (m1 e1 m2 e2 : Int) (hm1 : I64 m1) (hm2 : I64 m2) (h1 : right m1 e1 = true) (h2 : right m2 e2 = false) (w : World) : Calls Tryd.prog 38 #[.agg #[.int .i64 m1, .int .i64 e1], .agg #[.int .i64 m2, .int .i64 e2]] w fun r w' => r = .returned (numRes ((0, 0), 10)) ∧ Below w.heap.size w w' := by
  go_enter Tryd.func38, Tryd.ntmps38
  go_wp2_with fail
  refine (ref_Right m1 e1 hm1 _).mono ?_
  rw [h1]
  rintro r W1 ⟨rfl, hb⟩
  have Hx := Keep.mk ((((Box.new (w := w) (n := w.heap.size) [.int .i64 m1, .int .i64 e1] 23 (by first | rfl | simp)).alloc (.cells #[.int .i64 m2, .int .i64 e2] 23)).alloc (.cells #[.int .i64 0, .int .i64 0] 23)).below hb (by simp only [World.size_alloc]; omega))
  have Hy := Keep.mk (((Box.new (w := (w.alloc (.cells #[.int .i64 m1, .int .i64 e1] 23))) (n := w.heap.size + 1) [.int .i64 m2, .int .i64 e2] 23 (by first | rfl | simp)).alloc (.cells #[.int .i64 0, .int .i64 0] 23)).below hb (by simp only [World.size_alloc]; omega))
  have Hr := Keep.mk ((Box.new (w := ((w.alloc (.cells #[.int .i64 m1, .int .i64 e1] 23)).alloc (.cells #[.int .i64 m2, .int .i64 e2] 23))) (n := w.heap.size + 2) [.int .i64 0, .int .i64 0] 23 (by first | rfl | simp)).below hb (by simp only [World.size_alloc]; omega))
  have HB := Keep.mk (up (al3 w _ _ _) hb)
  have xc0 := Hx.out.cell 0 _ rfl
  have xf0 := Hx.out.froz 0
  have xc1 := Hx.out.cell 1 _ rfl
  have xf1 := Hx.out.froz 1
  have xl := Hx.out.lt
  have yc0 := Hy.out.cell 0 _ rfl
  have yf0 := Hy.out.froz 0
  have yc1 := Hy.out.cell 1 _ rfl
  have yf1 := Hy.out.froz 1
  have yl := Hy.out.lt
  have rc0 := Hr.out.cell 0 _ rfl
  have rf0 := Hr.out.froz 0
  have rc1 := Hr.out.cell 1 _ rfl
  have rf1 := Hr.out.froz 1
  have rl := Hr.out.lt
  go_wp2_with fail
  refine (ref_Right m2 e2 hm2 _).mono ?_
  rw [h2]
  rintro r W2 ⟨rfl, hb⟩
  clear xc0 xc1 xf0 xf1 xl yc0 yc1 yf0 yf1 yl rc0 rc1 rf0 rf1 rl
  replace Hx := Keep.mk (Hx.out.below hb Hx.out.lt)
  replace Hy := Keep.mk (Hy.out.below hb Hy.out.lt)
  replace Hr := Keep.mk (Hr.out.below hb Hr.out.lt)
  replace HB := Keep.mk (up HB.out hb)
  have xc0 := Hx.out.cell 0 _ rfl
  have xf0 := Hx.out.froz 0
  have xc1 := Hx.out.cell 1 _ rfl
  have xf1 := Hx.out.froz 1
  have xl := Hx.out.lt
  have yc0 := Hy.out.cell 0 _ rfl
  have yf0 := Hy.out.froz 0
  have yc1 := Hy.out.cell 1 _ rfl
  have yf1 := Hy.out.froz 1
  have yl := Hy.out.lt
  have rc0 := Hr.out.cell 0 _ rfl
  have rf0 := Hr.out.froz 0
  have rc1 := Hr.out.cell 1 _ rfl
  have rf1 := Hr.out.froz 1
  have rl := Hr.out.lt
  go_wp2
  refine bodyPost_ret (v := numRes ((0, 0), 10)) ?_ rfl ⟨rfl, st1 (st1 HB.out _ _ _ (by omega)) _ _ _ (by omega)⟩
  simp [numRes, results, Tryd.results38, go_sem, rc0, rc1]
set_option maxRecDepth 100000 in
set_option maxHeartbeats 4000000 in
theorem rmul_ok (m1 e1 m2 e2 : Int) (hm1 : I64 m1) (hm2 : I64 m2) (h1 : right m1 e1 = true) (h2 : right m2 e2 = true) (p q k : Int) (hr : mulN m1 e1 m2 e2 = ((p, q), k)) (w : World) : Calls Tryd.prog 38 #[.agg #[.int .i64 m1, .int .i64 e1], .agg #[.int .i64 m2, .int .i64 e2]] w fun r w' => r = .returned (numRes ((p, q), k)) ∧ Below w.heap.size w w' := by
  have HN1 := digs_len m1.natAbs (by have := hm1.lo; have := hm1.hi; omega)
  have HN2 := digs_len m2.natAbs (by have := hm2.lo; have := hm2.hi; omega)
  have HR1 := right_exp h1
  have HR2 := right_exp h2
  have HH := Keep.mk hr
  have HV1 := Keep.mk (val_digs m1.natAbs)
  have HV2 := Keep.mk (val_digs m2.natAbs)
  have HD1 := Keep.mk (digs_digs m1.natAbs)
  have HD2 := Keep.mk (digs_digs m2.natAbs)
  have HNORM : Keep (∀ os : List Nat, val os = m1.natAbs * m2.natAbs → norm (decide (m1 < 0) != decide (m2 < 0)) (val os) (e1 + e2) = ((p, q), k)) := ⟨fun os h => (mul_norm h1 h2 h).trans HH.out⟩
  clear hr
  go_enter Tryd.func38, Tryd.ntmps38
  go_wp2_with fail
  refine (ref_Right m1 e1 hm1 _).mono ?_
  rw [h1]
  rintro r W1 ⟨rfl, hb⟩
  have Hx := Keep.mk ((((Box.new (w := w) (n := w.heap.size) [.int .i64 m1, .int .i64 e1] 23 (by first | rfl | simp)).alloc (.cells #[.int .i64 m2, .int .i64 e2] 23)).alloc (.cells #[.int .i64 0, .int .i64 0] 23)).below hb (by simp only [World.size_alloc]; omega))
  have Hy := Keep.mk (((Box.new (w := (w.alloc (.cells #[.int .i64 m1, .int .i64 e1] 23))) (n := w.heap.size + 1) [.int .i64 m2, .int .i64 e2] 23 (by first | rfl | simp)).alloc (.cells #[.int .i64 0, .int .i64 0] 23)).below hb (by simp only [World.size_alloc]; omega))
  have Hr := Keep.mk ((Box.new (w := ((w.alloc (.cells #[.int .i64 m1, .int .i64 e1] 23)).alloc (.cells #[.int .i64 m2, .int .i64 e2] 23))) (n := w.heap.size + 2) [.int .i64 0, .int .i64 0] 23 (by first | rfl | simp)).below hb (by simp only [World.size_alloc]; omega))
  have HB := Keep.mk (up (al3 w _ _ _) hb)
  have xc0 := Hx.out.cell 0 _ rfl
  have xf0 := Hx.out.froz 0
  have xc1 := Hx.out.cell 1 _ rfl
  have xf1 := Hx.out.froz 1
  have xl := Hx.out.lt
  have yc0 := Hy.out.cell 0 _ rfl
  have yf0 := Hy.out.froz 0
  have yc1 := Hy.out.cell 1 _ rfl
  have yf1 := Hy.out.froz 1
  have yl := Hy.out.lt
  have rc0 := Hr.out.cell 0 _ rfl
  have rf0 := Hr.out.froz 0
  have rc1 := Hr.out.cell 1 _ rfl
  have rf1 := Hr.out.froz 1
  have rl := Hr.out.lt
  go_wp2_with fail
  refine (ref_Right m2 e2 hm2 _).mono ?_
  rw [h2]
  rintro r W2 ⟨rfl, hb⟩
  clear xc0 xc1 xf0 xf1 xl yc0 yc1 yf0 yf1 yl rc0 rc1 rf0 rf1 rl
  replace Hx := Keep.mk (Hx.out.below hb Hx.out.lt)
  replace Hy := Keep.mk (Hy.out.below hb Hy.out.lt)
  replace Hr := Keep.mk (Hr.out.below hb Hr.out.lt)
  replace HB := Keep.mk (up HB.out hb)
  have xc0 := Hx.out.cell 0 _ rfl
  have xf0 := Hx.out.froz 0
  have xc1 := Hx.out.cell 1 _ rfl
  have xf1 := Hx.out.froz 1
  have xl := Hx.out.lt
  have yc0 := Hy.out.cell 0 _ rfl
  have yf0 := Hy.out.froz 0
  have yc1 := Hy.out.cell 1 _ rfl
  have yf1 := Hy.out.froz 1
  have yl := Hy.out.lt
  have rc0 := Hr.out.cell 0 _ rfl
  have rf0 := Hr.out.froz 0
  have rc1 := Hr.out.cell 1 _ rfl
  have rf1 := Hr.out.froz 1
  have rl := Hr.out.lt
  go_wp2_with fail
  refine (long_at m1 e1 hm1 _).mono ?_
  rintro r W3 ⟨A1, c1, rfl, hI1, hb⟩
  clear xc0 xc1 xf0 xf1 xl yc0 yc1 yf0 yf1 yl rc0 rc1 rf0 rf1 rl
  replace Hx := Keep.mk (Hx.out.below hb Hx.out.lt)
  replace Hy := Keep.mk (Hy.out.below hb Hy.out.lt)
  replace Hr := Keep.mk (Hr.out.below hb Hr.out.lt)
  replace HB := Keep.mk (up HB.out hb)
  have xc0 := Hx.out.cell 0 _ rfl
  have xf0 := Hx.out.froz 0
  have xc1 := Hx.out.cell 1 _ rfl
  have xf1 := Hx.out.froz 1
  have xl := Hx.out.lt
  have yc0 := Hy.out.cell 0 _ rfl
  have yf0 := Hy.out.froz 0
  have yc1 := Hy.out.cell 1 _ rfl
  have yf1 := Hy.out.froz 1
  have yl := Hy.out.lt
  have rc0 := Hr.out.cell 0 _ rfl
  have rf0 := Hr.out.froz 0
  have rc1 := Hr.out.cell 1 _ rfl
  have rf1 := Hr.out.froz 1
  have rl := Hr.out.lt
  have HI := Keep.mk hI1
  go_wp2_with fail
  have xlW3 := Hx.out.lt
  have ylW3 := Hy.out.lt
  have rlW3 := Hr.out.lt
  refine calls_world (fun W => Box W (w.heap.size) [.int .i64 m1, .int .i64 e1] ∧ Box W (w.heap.size + 1) [.int .i64 m2, .int .i64 e2] ∧ Box W (w.heap.size + 2) [.int .i64 0, .int .i64 0] ∧ Box W (W3.heap.size) [.bool (decide (m1 < 0)), .slice A1 (digs m1.natAbs).length c1, .int .i64 e1] ∧ Below w.heap.size w W ∧ IntsAt W W.heap.size A1 c1 (digs m1.natAbs)) ⟨Hx.out.alloc _, Hy.out.alloc _, Hr.out.alloc _, Box.new [.bool (decide (m1 < 0)), .slice A1 (digs m1.natAbs).length c1, .int .i64 e1] _ rfl, up HB.out (al1 _ _), (HI.out.below (al1 _ _) (Nat.le_refl _)).more (al1 _ _).size⟩ ?_
  clear xc0 xc1 xf0 xf1 xl yc0 yc1 yf0 yf1 yl rc0 rc1 rf0 rf1 rl
  clear Hx Hy Hr HB HI
  rintro W4 ⟨Hx, Hy, Hr, Hp, HB, HI⟩
  replace Hx := Keep.mk Hx
  replace Hy := Keep.mk Hy
  replace Hr := Keep.mk Hr
  replace Hp := Keep.mk Hp
  replace HB := Keep.mk HB
  replace HI := Keep.mk HI
  have xc0 := Hx.out.cell 0 _ rfl
  have xf0 := Hx.out.froz 0
  have xc1 := Hx.out.cell 1 _ rfl
  have xf1 := Hx.out.froz 1
  have xl := Hx.out.lt
  have yc0 := Hy.out.cell 0 _ rfl
  have yf0 := Hy.out.froz 0
  have yc1 := Hy.out.cell 1 _ rfl
  have yf1 := Hy.out.froz 1
  have yl := Hy.out.lt
  have rc0 := Hr.out.cell 0 _ rfl
  have rf0 := Hr.out.froz 0
  have rc1 := Hr.out.cell 1 _ rfl
  have rf1 := Hr.out.froz 1
  have rl := Hr.out.lt
  have pc0 := Hp.out.cell 0 _ rfl
  have pf0 := Hp.out.froz 0
  have pc1 := Hp.out.cell 1 _ rfl
  have pf1 := Hp.out.froz 1
  have pc2 := Hp.out.cell 2 _ rfl
  have pf2 := Hp.out.froz 2
  have pl := Hp.out.lt
  refine (long_at m2 e2 hm2 _).mono ?_
  rintro r W5 ⟨A2, c2, rfl, hI2, hb⟩
  clear xc0 xc1 xf0 xf1 xl yc0 yc1 yf0 yf1 yl rc0 rc1 rf0 rf1 rl pc0 pc1 pc2 pf0 pf1 pf2 pl
  replace Hx := Keep.mk (Hx.out.below hb Hx.out.lt)
  replace Hy := Keep.mk (Hy.out.below hb Hy.out.lt)
  replace Hr := Keep.mk (Hr.out.below hb Hr.out.lt)
  replace Hp := Keep.mk (Hp.out.below hb Hp.out.lt)
  replace HI := Keep.mk ((HI.out.below hb (Nat.le_refl _)).more hb.size)
  replace HB := Keep.mk (up HB.out hb)
  have xc0 := Hx.out.cell 0 _ rfl
  have xf0 := Hx.out.froz 0
  have xc1 := Hx.out.cell 1 _ rfl
  have xf1 := Hx.out.froz 1
  have xl := Hx.out.lt
  have yc0 := Hy.out.cell 0 _ rfl
  have yf0 := Hy.out.froz 0
  have yc1 := Hy.out.cell 1 _ rfl
  have yf1 := Hy.out.froz 1
  have yl := Hy.out.lt
  have rc0 := Hr.out.cell 0 _ rfl
  have rf0 := Hr.out.froz 0
  have rc1 := Hr.out.cell 1 _ rfl
  have rf1 := Hr.out.froz 1
  have rl := Hr.out.lt
  have pc0 := Hp.out.cell 0 _ rfl
  have pf0 := Hp.out.froz 0
  have pc1 := Hp.out.cell 1 _ rfl
  have pf1 := Hp.out.froz 1
  have pc2 := Hp.out.cell 2 _ rfl
  have pf2 := Hp.out.froz 2
  have pl := Hp.out.lt
  have HJ := Keep.mk hI2
  go_upto_region 5 with fail
  have xlW5 := Hx.out.lt
  have ylW5 := Hy.out.lt
  have rlW5 := Hr.out.lt
  have plW5 := Hp.out.lt
  refine wp_world (fun W => Box W (w.heap.size) [.int .i64 m1, .int .i64 e1] ∧ Box W (w.heap.size + 1) [.int .i64 m2, .int .i64 e2] ∧ Box W (w.heap.size + 2) [.int .i64 0, .int .i64 0] ∧ Box W (W3.heap.size) [.bool (decide (m1 < 0)), .slice A1 (digs m1.natAbs).length c1, .int .i64 e1] ∧ Box W (W5.heap.size) [.bool (decide (m2 < 0)), .slice A2 (digs m2.natAbs).length c2, .int .i64 e2] ∧ Below w.heap.size w W ∧ IntsAt W W.heap.size A1 c1 (digs m1.natAbs) ∧ IntsAt W W.heap.size A2 c2 (digs m2.natAbs)) ⟨Hx.out.alloc _, Hy.out.alloc _, Hr.out.alloc _, Hp.out.alloc _, Box.new [.bool (decide (m2 < 0)), .slice A2 (digs m2.natAbs).length c2, .int .i64 e2] _ rfl, up HB.out (al1 _ _), (HI.out.below (al1 _ _) (Nat.le_refl _)).more (al1 _ _).size, (HJ.out.below (al1 _ _) (Nat.le_refl _)).more (al1 _ _).size⟩ ?_
  clear xc0 xc1 xf0 xf1 xl yc0 yc1 yf0 yf1 yl rc0 rc1 rf0 rf1 rl pc0 pc1 pc2 pf0 pf1 pf2 pl
  clear Hx Hy Hr Hp HB HI HJ
  rintro W6 ⟨Hx, Hy, Hr, Hp, Hq, HB, HI, HJ⟩
  replace Hx := Keep.mk Hx
  replace Hy := Keep.mk Hy
  replace Hr := Keep.mk Hr
  replace Hp := Keep.mk Hp
  replace Hq := Keep.mk Hq
  replace HB := Keep.mk HB
  replace HI := Keep.mk HI
  replace HJ := Keep.mk HJ
  have xc0 := Hx.out.cell 0 _ rfl
  have xf0 := Hx.out.froz 0
  have xc1 := Hx.out.cell 1 _ rfl
  have xf1 := Hx.out.froz 1
  have xl := Hx.out.lt
  have yc0 := Hy.out.cell 0 _ rfl
  have yf0 := Hy.out.froz 0
  have yc1 := Hy.out.cell 1 _ rfl
  have yf1 := Hy.out.froz 1
  have yl := Hy.out.lt
  have rc0 := Hr.out.cell 0 _ rfl
  have rf0 := Hr.out.froz 0
  have rc1 := Hr.out.cell 1 _ rfl
  have rf1 := Hr.out.froz 1
  have rl := Hr.out.lt
  have pc0 := Hp.out.cell 0 _ rfl
  have pf0 := Hp.out.froz 0
  have pc1 := Hp.out.cell 1 _ rfl
  have pf1 := Hp.out.froz 1
  have pc2 := Hp.out.cell 2 _ rfl
  have pf2 := Hp.out.froz 2
  have pl := Hp.out.lt
  have qc0 := Hq.out.cell 0 _ rfl
  have qf0 := Hq.out.froz 0
  have qc1 := Hq.out.cell 1 _ rfl
  have qf1 := Hq.out.froz 1
  have qc2 := Hq.out.cell 2 _ rfl
  have qf2 := Hq.out.froz 2
  have ql := Hq.out.lt
  generalize hds1 : digs m1.natAbs = d1 at *
  generalize hds2 : digs m2.natAbs = d2 at *
  clear hds1 hds2
  obtain ⟨N, hN⟩ : ∃ N : Nat, (d1.length : Int) + d2.length + 1 = N := ⟨d1.length + d2.length + 1, by push_cast; rfl⟩
  have HN := Keep.mk (show N = d1.length + d2.length + 1 by omega)
  have hN40 : N ≤ 39 := by omega
  have hmk := run_make_row' (P := Tryd.prog) 63 3 (.int .i64 0) 8 Tryd.underlying63 int_info rfl .i64 .i64 N (by omega) (by omega)
  go_upto_block 0 with fail
  have HO := Keep.mk HB.out
  have KP := Keep.mk Hp.out
  have KQ := Keep.mk Hq.out
  have KR := Keep.mk Hr.out
  have hd1l : d1.length ≤ 19 := HN1
  have hd2l : d2.length ≤ 19 := HN2
  have hm6 : W3.heap.size < W6.heap.size := pl
  have hm6' : W5.heap.size < W6.heap.size := ql
  clear xc0 xc1 xf0 xf1 xl yc0 yc1 yf0 yf1 yl rc0 rc1 rf0 rf1 rl pc0 pc1 pc2 pf0 pf1 pf2 pl qc0 qc1 qc2 qf0 qf1 qf2 ql
  clear Hx Hy Hp Hq Hr HB
  go_cut [9, 10] (fun s9 s10 wx => ∃ os : List Nat, Keep (MulI d1 d2 0 os) ∧ Keep (Box wx W6.heap.size (os.map iv)) ∧ Keep (Below W6.heap.size W6 wx))
  case first =>
    go_wp2_with fail
    go_loopg [9, 10] d1.length (fun gk i kk wr => ∃ os : List Nat, i = .int .i64 ((gk : Int) - 1) ∧ gk ≤ d1.length ∧ Keep (MulI d1 d2 gk os) ∧ Keep (Box wr W6.heap.size (os.map iv)) ∧ Keep (Below W6.heap.size W6 wr))
    case atStart => exact ⟨_, rfl, Nat.le_refl _, ⟨MulI.start d1 d2⟩, ⟨by rw [HN.out]; exact Box.made _ rfl _⟩, ⟨al1 _ _⟩⟩
    case round =>
      obtain ⟨os, rfl, hgk, HM, HX, HW⟩ := hrel
      cases gk with
      | zero =>
        rw [show (((0 : Nat) : Int) - 1) = -1 by rfl]
        go_wp2_with fail
        go_meet
        exact ⟨os, HM, HX, HW⟩
      | succ i =>
        rw [show (((i + 1 : Nat) : Int) - 1) = (i : Int) by omega]
        have hi : i < d1.length := hgk
        obtain ⟨g, o, rfl, hg, hc⟩ := HI.out.at_ (by omega)
        have CX := Keep.mk (hc i hi)
        have hx9 := HD1.out _ (List.getElem_mem hi)
        have HK := Keep.mk (MulK.start HM.out hi d1[i])
        have HDONE := Keep.mk (fun os' (h : MulK d1 d2 i d1[i] 0 os') => MulK.done hi h hd2l)
        have hcap := HI.out.le
        clear hc
        generalize d1[i] = x at *
        have q1 := (HW.out.cell (p := ⟨W5.heap.size, 1, none⟩) hm6').trans (KQ.out.cell 1 _ rfl)
        obtain ⟨wo, rfl⟩ : ∃ wo : World, wo = wr := ⟨_, rfl⟩
        go_wp2_with fail
        clear q1 HM
        go_loopg [10] d2.length (fun hk kk wr' => ∃ os : List Nat, kk = .int .i64 ((hk : Int) - 1) ∧ hk ≤ d2.length ∧ Keep (MulK d1 d2 i x hk os) ∧ Keep (Box wr' W6.heap.size (os.map iv)) ∧ Keep (Below W6.heap.size W6 wr'))
        case atStart => exact ⟨os, rfl, Nat.le_refl _, HK, HX, HW⟩
        case round =>
          clear HK HX HW
          obtain ⟨os, rfl, hhk, HM, HX, HW⟩ := hrel
          cases gk with
          | zero =>
            rw [show (((0 : Nat) : Int) - 1) = -1 by rfl]
            go_wp2_with fail
            go_roundg i
            case rel => exact ⟨os, by go_num, by omega, ⟨HDONE.out os HM.out⟩, HX, HW⟩
            case measure => omega
          | succ k =>
            rw [show (((k + 1 : Nat) : Int) - 1) = (k : Int) by omega]
            have hk2 : k < d2.length := hhk
            obtain ⟨g', o', rfl, hg', hc'⟩ := HJ.out.at_ (by omega)
            have CY := Keep.mk (hc' k hk2)
            have hy9 := HD2.out _ (List.getElem_mem hk2)
            have HS := Keep.mk (HM.out.step hi hk2 hx9 hy9)
            have hcap' := HJ.out.le
            have HSM := HM.out.small hd1l hd2l
            have hol : os.length = N := by rw [HM.out.len, HN.out]
            clear hc'
            generalize d2[k] = y at *
            obtain ⟨t, ht⟩ : ∃ t : Nat, (x : Int) * y = t := ⟨x * y, by push_cast; rfl⟩
            have hte : x * y = t := by exact_mod_cast ht
            have ht81 : t ≤ 81 := by rw [← hte]; exact Nat.mul_le_mul hx9 hy9
            rw [hte] at HS
            have HTE := Keep.mk hte
            obtain ⟨p, hp⟩ : ∃ p : Nat, (i : Int) + k + 1 = p := ⟨i + k + 1, by push_cast; rfl⟩
            obtain ⟨q, hq⟩ : ∃ q : Nat, (i : Int) + k + 2 = q := ⟨i + k + 2, by push_cast; rfl⟩
            have hpe : p = i + k + 1 := by omega
            have hqe : q = p + 1 := by omega
            have hqN : q < N := by have := HN.out; omega
            rw [← hpe] at HS
            have HPE := Keep.mk hpe
            have HQE := Keep.mk hqe
            have bq := getD_le_sum os q
            have bp := getD_le_sum os p
            have oq := cell_getD HX.out (i := q) (by rw [hol]; exact hqN)
            have op := cell_getD HX.out (i := p) (by rw [hol]; omega)
            have fq := HX.out.froz q
            have hpq1 : p < q := by omega
            have hpq2 : q < p + 2 := by omega
            have lo := HX.out.lt
            have cx := (HW.out.cell (p := ⟨g, o + i, none⟩) hg).trans CX.out
            have cy := (HW.out.cell (p := ⟨g', o' + k, none⟩) hg').trans CY.out
            have hgl := Nat.lt_of_lt_of_le hg HW.out.size
            have hgl' := Nat.lt_of_lt_of_le hg' HW.out.size
            have hpl := Nat.lt_of_lt_of_le hm6 HW.out.size
            have hql := Nat.lt_of_lt_of_le hm6' HW.out.size
            have p1 := (HW.out.cell (p := ⟨W3.heap.size, 1, none⟩) hm6).trans (KP.out.cell 1 _ rfl)
            have q1 := (HW.out.cell (p := ⟨W5.heap.size, 1, none⟩) hm6').trans (KQ.out.cell 1 _ rfl)
            clear hte hpe hqe
            have w1 : IntKind.i64.wrap ((i : Int) + k) = (i : Int) + k := IntWalk.i64_in _ (by omega)
            have w2 : IntKind.i64.wrap ((i : Int) + k + 2) = (q : Int) := by rw [hq]; exact IntWalk.i64_in _ (by omega)
            have w3 : IntKind.i64.wrap ((i : Int) + k + 1) = (p : Int) := by rw [hp]; exact IntWalk.i64_in _ (by omega)
            have w4 : IntKind.i64.wrap (t : Int) = (t : Int) := IntWalk.i64_in _ (by omega)
            generalize hzq : os.getD q 0 = zq at *
            have HZQ := Keep.mk hzq
            generalize hzp : os.getD p 0 = zp at *
            have HZP := Keep.mk hzp
            clear hzq hzp
            obtain ⟨z1, hz1⟩ : ∃ z : Nat, (zq : Int) + t = z := ⟨zq + t, by push_cast; rfl⟩
            have HZ1 := Keep.mk (show z1 = zq + t by omega)
            have bz1 : z1 ≤ 40081 := by omega
            have w5 : IntKind.i64.wrap ((zq : Int) + (t : Int)) = z1 := by rw [hz1]; exact IntWalk.i64_in _ (by omega)
            obtain ⟨d, hd1⟩ : ∃ d : Nat, (z1 : Int) / 10 = d := ⟨z1 / 10, by push_cast; rfl⟩
            have hd2 : (z1 : Int).tdiv 10 = d := by rw [Int.tdiv_eq_ediv_of_nonneg (by omega)]; exact hd1
            have HDE := Keep.mk (show d = z1 / 10 by omega)
            have bd : d ≤ 40081 := by omega
            have w6 : IntKind.i64.wrap (d : Int) = (d : Int) := IntWalk.i64_in _ (by omega)
            obtain ⟨z2, hz2⟩ : ∃ z : Nat, (zp : Int) + d = z := ⟨zp + d, by push_cast; rfl⟩
            have HZ2 := Keep.mk (show z2 = zp + d by omega)
            have w7 : IntKind.i64.wrap ((zp : Int) + (d : Int)) = z2 := by rw [hz2]; exact IntWalk.i64_in _ (by omega)
            obtain ⟨z3, hz3⟩ : ∃ z : Nat, (z1 : Int) % 10 = z := ⟨z1 % 10, by push_cast; rfl⟩
            have HZ3 := Keep.mk (show z3 = z1 % 10 by omega)
            have hz3' : (z1 : Int).tmod 10 = z3 := by rw [Int.tmod_eq_emod_of_nonneg (by omega)]; exact hz3
            go_wp2_with fail
            refine wp_region_tail 25 (Below.refl _ _) (by kernel_rfl) (by kernel_rfl) ?_
            simp only [List.take_succ_cons, List.take_zero, List.drop_succ_cons, List.drop_zero]
            repeat (go_big_quiet_step (fail))
            refine wpQuiet_nil ?_
            rintro _ ⟨u, rfl⟩
            go_wp2_with fail
            refine wp_world (fun W => Box W W6.heap.size ((os.map iv).set q (.int .i64 z1)) ∧ Below W6.heap.size W6 W) ⟨(HX.out.below u.property lo).set (by simp; omega) _, st1 (up HW.out u.property) _ _ _ (Nat.le_refl _)⟩ ?_
            clear HX HW oq op fq lo cx cy hgl hgl' hpl hql p1 q1
            rintro V1 ⟨HX, HW⟩
            have lo := HX.lt
            have oq : V1.cell? ⟨W6.heap.size, q, none⟩ = some (.int .i64 z1) := HX.cell q _ (by rw [List.getElem?_set_self (show q < (os.map iv).length by simp; omega)])
            have op : V1.cell? ⟨W6.heap.size, p, none⟩ = some (.int .i64 zp) := HX.cell p _ (by rw [List.getElem?_set_ne (show q ≠ p by omega), List.getElem?_map, List.getElem?_eq_getElem (show p < os.length by omega)]; have h := HZP.out; rw [getD_lt _ _ (by omega)] at h; simp [iv, h])
            have fp := HX.froz p
            refine wp_region_tail 22 (Below.refl _ _) (by kernel_rfl) (by kernel_rfl) ?_
            simp only [List.take_succ_cons, List.take_zero, List.drop_succ_cons, List.drop_zero]
            repeat (go_big_quiet_step (fail))
            refine wpQuiet_nil ?_
            rintro _ ⟨u, rfl⟩
            go_upto_region 14 with fail
            refine wp_world (fun W => Box W W6.heap.size (((os.map iv).set q (.int .i64 z1)).set p (.int .i64 z2)) ∧ Below W6.heap.size W6 W) ⟨(HX.below u.property lo).set (by simp; omega) _, st1 (up HW u.property) _ _ _ (Nat.le_refl _)⟩ ?_
            clear HX HW oq op fp lo
            rintro V2 ⟨HX, HW⟩
            have lo := HX.lt
            have oq : V2.cell? ⟨W6.heap.size, q, none⟩ = some (.int .i64 z1) := HX.cell q _ (by rw [List.getElem?_set_ne (show p ≠ q by omega), List.getElem?_set_self (show q < (os.map iv).length by simp; omega)])
            have fq := HX.froz q
            have HXK := Keep.mk HX
            clear HX
            go_wp2_with fail
            go_roundg k
            case rel => exact ⟨carry os p t, by go_num, by omega, HS, ⟨carry_box HXK.out HQE.out (by omega) (by rw [HZ1.out, HZQ.out]; rfl) (by rw [HZ2.out, HDE.out, HZ1.out, HZP.out, HZQ.out]; rfl) (by rw [HZ3.out, HZ1.out, HZQ.out]; rfl)⟩, ⟨st1 HW _ _ _ (Nat.le_refl _)⟩⟩
            case measure => omega
  case rest =>
    obtain ⟨os, HM, HX, HW⟩ := hcut
    go_upto_block 4 with fail
    go_cut [11] (fun s11 wx => ∃ os : List Nat, Keep (MulZ d1 d2 0 os) ∧ Keep (Box wx W6.heap.size (os.map iv)) ∧ Keep (Below W6.heap.size W6 wx))
    case first =>
      go_wp2_with fail
      go_loopg [11] (d1.length + d2.length) (fun gk i wr => ∃ os : List Nat, i = .int .i64 (gk : Int) ∧ Keep (MulZ d1 d2 gk os) ∧ Keep (gk < N) ∧ Keep (Box wr W6.heap.size (os.map iv)) ∧ Keep (Below W6.heap.size W6 wr))
      case atStart => exact ⟨os, by have := HN.out; congr 1; omega, ⟨MulZ.start HM.out hd1l⟩, ⟨by have := HN.out; omega⟩, HX, HW⟩
      case round =>
        clear HX HW HM
        obtain ⟨os, rfl, HM, HGK, HX, HW⟩ := hrel
        cases gk with
        | zero =>
          go_wp2_with fail
          go_meet
          exact ⟨os, HM, HX, HW⟩
        | succ p =>
          have hqN : p + 1 < N := HGK.out
          have hol : os.length = N := by rw [HM.out.len, HN.out]
          have HS := Keep.mk (HM.out.step (by omega))
          have hsum := HM.out.sum
          obtain ⟨q, hq⟩ : ∃ q : Nat, p + 1 = q := ⟨_, rfl⟩
          rw [hq] at hqN ⊢
          have HQE := Keep.mk hq.symm
          have hp1 : (q : Int) - 1 = p := by omega
          have hpq1 : p < q := by omega
          have hpq2 : q < p + 2 := by omega
          clear hq
          have bq := getD_le_sum os q
          have bp := getD_le_sum os p
          have oq := cell_getD HX.out (i := q) (by omega)
          have op := cell_getD HX.out (i := p) (by omega)
          have fp := HX.out.froz p
          have lo := HX.out.lt
          have w2 : IntKind.i64.wrap ((q : Int) - 1) = (p : Int) := by rw [hp1]; exact IntWalk.i64_in _ (by omega)
          generalize hz1 : os.getD q 0 = z1 at *
          have HZ1 := Keep.mk hz1
          clear hz1
          generalize hzp : os.getD p 0 = zp at *
          have HZP := Keep.mk hzp
          clear hzp
          obtain ⟨d, hd1⟩ : ∃ d : Nat, (z1 : Int) / 10 = d := ⟨z1 / 10, by push_cast; rfl⟩
          have hd2 : (z1 : Int).tdiv 10 = d := by rw [Int.tdiv_eq_ediv_of_nonneg (by omega)]; exact hd1
          have HDE := Keep.mk (show d = z1 / 10 by omega)
          have bd : d ≤ 40081 := by omega
          have w6 : IntKind.i64.wrap (d : Int) = (d : Int) := IntWalk.i64_in _ (by omega)
          obtain ⟨z2, hz2⟩ : ∃ z : Nat, (zp : Int) + d = z := ⟨zp + d, by push_cast; rfl⟩
          have HZ2 := Keep.mk (show z2 = zp + d by omega)
          have w7 : IntKind.i64.wrap ((zp : Int) + (d : Int)) = z2 := by rw [hz2]; exact IntWalk.i64_in _ (by omega)
          obtain ⟨z3, hz3⟩ : ∃ z : Nat, (z1 : Int) % 10 = z := ⟨z1 % 10, by push_cast; rfl⟩
          have HZ3 := Keep.mk (show z3 = z1 % 10 by omega)
          have hz3' : (z1 : Int).tmod 10 = z3 := by rw [Int.tmod_eq_emod_of_nonneg (by omega)]; exact hz3
          go_wp2_with fail
          refine wp_region_tail 15 (Below.refl _ _) (by kernel_rfl) (by kernel_rfl) ?_
          simp only [List.take_succ_cons, List.take_zero, List.drop_succ_cons, List.drop_zero]
          repeat (go_big_quiet_step (fail))
          refine wpQuiet_nil ?_
          rintro _ ⟨u, rfl⟩
          go_upto_region 19 with fail
          refine wp_world (fun W => Box W W6.heap.size ((os.map iv).set p (.int .i64 z2)) ∧ Below W6.heap.size W6 W) ⟨(HX.out.below u.property lo).set (by simp; omega) _, st1 (up HW.out u.property) _ _ _ (Nat.le_refl _)⟩ ?_
          clear oq op fp lo
          have HX0 := HX
          clear HX HW
          rintro V2 ⟨HX, HW⟩
          have lo := HX.lt
          have oq : V2.cell? ⟨W6.heap.size, q, none⟩ = some (.int .i64 z1) := HX.cell q _ (by rw [List.getElem?_set_ne (show p ≠ q by omega), List.getElem?_map, List.getElem?_eq_getElem (by omega)]; have h := HZ1.out; rw [getD_lt _ _ (by omega)] at h; simp [iv, h])
          have fq := HX.froz q
          have HXK := Keep.mk HX
          clear HX HX0
          go_wp2_with fail
          go_roundg p
          case rel => exact ⟨carry os p 0, by go_num, HS, ⟨by omega⟩, ⟨carry_box2 HXK.out HQE.out (by omega) (by rw [HZ2.out, HDE.out, HZ1.out, HZP.out]; rfl) (by rw [HZ3.out, HZ1.out]; rfl)⟩, ⟨st1 HW _ _ _ (Nat.le_refl _)⟩⟩
          case measure => omega
    case rest =>
      clear HX HW HM
      obtain ⟨os, HM, HX, HW⟩ := hcut
      have hol : N = os.length := by rw [HM.out.len, HN.out]
      have HOL := Keep.mk hol
      have HDg := Keep.mk (HM.out.done HD1.out HD2.out)
      have HIO := Keep.mk (HX.out.ints' hol (by omega))
      have HNR := Keep.mk (HNORM.out os (by rw [HM.out.v, HV1.out, HV2.out]))
      have BP := KP.out.below HW.out hm6
      have BQ := KQ.out.below HW.out hm6'
      have HR := Keep.mk (KR.out.below HW.out KR.out.lt)
      have p0 := BP.cell 0 _ rfl
      have p2 := BP.cell 2 _ rfl
      have q0 := BQ.cell 0 _ rfl
      have q2 := BQ.cell 2 _ rfl
      clear hol HX
      generalize decide (m1 < 0) = na at *
      generalize decide (m2 < 0) = nb at *
      go_wp2_with fail
      refine (short_n (na != nb) (some ⟨W6.heap.size, 0, none⟩) N os N HOL.out (e1 + e2) HDg.out (by have := HOL.out; omega) (by omega) p q k HNR.out _ HIO.out).mono ?_
      rintro r V2 ⟨rfl, hb2⟩
      have HQ := Keep.mk (HR.out.below hb2 HR.out.lt)
      have r0 := HQ.out.cell 0 _ rfl
      have r1 := HQ.out.cell 1 _ rfl
      have g0 := HQ.out.froz 0
      have g1 := HQ.out.froz 1
      go_wp2
      refine bodyPost_ret (v := numRes ((p, q), k)) ?_ rfl ⟨rfl, st1 (st1 (up (up HO.out HW.out) hb2) _ _ _ (by omega)) _ _ _ (by omega)⟩
      simp [numRes, results, Tryd.results38, go_sem, r0, r1]
theorem ref_Mul (m1 e1 m2 e2 : Int) (hm1 : I64 m1) (hm2 : I64 m2) (w : World) : Calls Tryd.prog 38 #[.agg #[.int .i64 m1, .int .i64 e1], .agg #[.int .i64 m2, .int .i64 e2]] w fun r w' => r = .returned (numRes (mulN m1 e1 m2 e2)) ∧ Below w.heap.size w w' := by
  cases h1 : right m1 e1
  · have := rmul_bad1 m1 e1 m2 e2 hm1 hm2 h1 w
    unfold mulN; rw [h1]; exact this
  · cases h2 : right m2 e2
    · have := rmul_bad2 m1 e1 m2 e2 hm1 hm2 h1 h2 w
      unfold mulN; rw [h1, h2]; exact this
    · obtain ⟨⟨⟨p, q⟩, k⟩, hr⟩ : ∃ x, mulN m1 e1 m2 e2 = x := ⟨_, rfl⟩
      rw [hr]; exact rmul_ok m1 e1 m2 e2 hm1 hm2 h1 h2 p q k hr w
end Go.Proofs.YtljemfajjeoecaaDoor
