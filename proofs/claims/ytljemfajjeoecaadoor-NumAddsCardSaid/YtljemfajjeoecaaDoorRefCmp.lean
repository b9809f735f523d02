/- The references' Cmp. Conditions: the numbers are of int64 and int. -/
import Derived.Test.YtljemfajjeoecaaDoorRefSub
namespace Go.Proofs.YtljemfajjeoecaaDoor
open Go Go.RowKit Go.Proofs Th
attribute [local go_sem] Above.cell Above.frozen

theorem pow_part {m e E : Int} (h : m = 0 ∨ E ≤ e) (hE : -64 ≤ E) : m * (10 ^ (e - E).toNat : Nat) * (10 ^ (E + 64).toNat : Nat) = V m e := by
  unfold V
  rcases h with h | h
  · subst h; simp
  · rw [Int.mul_assoc, ← Int.natCast_mul, ← Nat.pow_add, show (e - E).toNat + (E + 64).toNat = (e + 64).toNat by omega]
theorem cmp_norm {m1 e1 m2 e2 : Int} {neg : Bool} {os : List Nat} (h1 : right m1 e1 = true) (h2 : right m2 e2 = true)
    (hP : PlusOut (decide (m1 < 0)) (!decide (m2 < 0)) (digs m1.natAbs) (digs m2.natAbs) e1 e2 neg os) : cmpS m1 e1 m2 e2 = if val os = 0 then 0 else if neg then -1 else 1 := by
  rw [cmpS_V h1 h2]
  obtain ⟨_, _, hs⟩ := hP
  have hsb := sg_not m2
  rw [Int.natAbs_neg] at hsb
  rw [val_digs, val_digs, sg_mul, sg_mul, sg_abs, hsb] at hs
  have b1 := right_exp h1
  have b2 := right_exp h2
  have hbd := pairE_bd (digs m1.natAbs) (digs m2.natAbs) e1 e2 b1 b2
  have k1 : m1 = 0 ∨ pairE (digs m1.natAbs) (digs m2.natAbs) e1 e2 ≤ e1 := by
    unfold pairE
    split
    · right; omega
    · split
      · rename_i h; left; have := digs_nil h; omega
      · right; exact (low_le _ _).1
  have k2 : m2 = 0 ∨ pairE (digs m1.natAbs) (digs m2.natAbs) e1 e2 ≤ e2 := by
    unfold pairE
    split
    · rename_i h; left; have := digs_nil h; omega
    · right
      split
      · omega
      · exact (low_le _ _).2
  generalize pairE (digs m1.natAbs) (digs m2.natAbs) e1 e2 = E at *
  have p1 := pow_part k1 hbd.1
  have p2 := pow_part k2 hbd.1
  rw [← p1, ← p2]
  have hp : 0 < 10 ^ (E + 64).toNat := Nat.pow_pos (by omega)
  generalize 10 ^ (E + 64).toNat = P at *
  generalize m1 * ((10 ^ (e1 - E).toNat : Nat) : Int) = X at *
  rw [Int.neg_mul] at hs
  generalize m2 * ((10 ^ (e2 - E).toNat : Nat) : Int) = Y at *
  have hx : ∀ u v : Int, u < v → u * (P : Int) < v * P := fun u v h => Int.mul_lt_mul_of_pos_right h (by omega)
  unfold cmp3
  unfold sg at hs
  by_cases h0 : val os = 0
  · rw [if_pos h0]
    have : X = Y := by rw [h0] at hs; cases neg <;> simp at hs <;> omega
    subst this
    rw [if_neg (by omega), if_neg (by omega)]
  · rw [if_neg h0]
    cases neg
    · simp only [Bool.false_eq_true, ↓reduceIte] at hs ⊢
      have h3 := hx Y X (by omega)
      rw [if_neg (by omega), if_pos h3]
    · simp only [↓reduceIte] at hs ⊢
      have h3 := hx X Y (by omega)
      rw [if_pos h3]
theorem IntsAt.apart {w : World} {B c : Nat} {A : Option Addr} {ds : List Nat} (h : IntsAt w B A c ds) {g o : Nat} (hA : ∀ a, A = some a → a.block ≠ g) (v : Value) : IntsAt (w.setCell ⟨g, o, none⟩ v) B A c ds :=
  ⟨h.le, h.cap, fun hn => by
    obtain ⟨g', o', e, hg, hc⟩ := h.at_ hn
    have hne := hA _ e
    exact ⟨g', o', e, hg, fun j hj => by rw [World.cell?_setCell_other _ _ _ _ (by intro e'; injection e' with e1; exact hne e1.symm)]; exact hc j hj⟩⟩
theorem val_zero_of {ds : List Nat} (h : ∀ d ∈ ds, d = 0) : val ds = 0 := by
  induction ds with
  | nil => rfl
  | cons d ds ih => rw [val_cons, h d (by simp), ih (fun x hx => h x (by simp [hx]))]; simp
theorem val_nz_of {ds : List Nat} {k : Nat} (h : k < ds.length) (hd : ds[k] ≠ 0) : val ds ≠ 0 := by
  intro h0
  induction ds generalizing k with
  | nil => simp at h
  | cons d ds ih =>
    rw [val_cons] at h0
    have hp : 0 < 10 ^ ds.length := Nat.pow_pos (by omega)
    have h1 : d * 10 ^ ds.length = 0 := by omega
    have h2 : d = 0 := by rcases Nat.mul_eq_zero.1 h1 with h | h <;> omega
    cases k with
    | zero => exact hd h2
    | succ k => exact ih (k := k) (by simpa using h) (by simpa using hd) (by omega)

set_option maxRecDepth 100000 in
set_option maxHeartbeats 2000000 in
theorem rcmp_bad1 (m1 e1 m2 e2 : Int) (hm1 : I64 m1) (_hm2 : I64 m2) (h1 : right m1 e1 = false) (w : World) : Calls Tryd.prog 45 #[.agg #[.int .i64 m1, .int .i64 e1], .agg #[.int .i64 m2, .int .i64 e2]] w fun r w' => r = .returned (cmpRes (0, 10)) ∧ Below w.heap.size w w' := by
  go_enter Tryd.func45, Tryd.ntmps45
  go_wp2_with fail
  refine (ref_Right m1 e1 hm1 _).mono ?_
  rw [h1]
  rintro r W1 ⟨rfl, hb⟩
  have Hx := Keep.mk (((Box.new (w := w) (n := w.heap.size) [.int .i64 m1, .int .i64 e1] 23 (by first | rfl | simp)).alloc (.cells #[.int .i64 m2, .int .i64 e2] 23)).below hb (by simp only [World.size_alloc]; omega))
  have Hy := Keep.mk ((Box.new (w := (w.alloc (.cells #[.int .i64 m1, .int .i64 e1] 23))) (n := w.heap.size + 1) [.int .i64 m2, .int .i64 e2] 23 (by first | rfl | simp)).below hb (by simp only [World.size_alloc]; omega))
  have HB := Keep.mk (up (al2 w _ _) hb)
  have xc0 := Hx.out.cell 0 _ rfl
  have xf0 := Hx.out.froz 0
  have xc1 := Hx.out.cell 1 _ rfl
  have xf1 := Hx.out.froz 1
  have xl := Hx.out.lt
  have yc0 := Hy.out.cell 0 _ rfl
  have yf0 := Hy.out.froz 0
  have yc1 := Hy.out.cell 1 _ rfl
  have yf1 := Hy.out.froz 1
  have yl := Hy.out.lt
  go_wp2
  go_ret2
  exact ⟨rfl, HB.out⟩
set_option maxRecDepth 100000 in
set_option maxHeartbeats 2000000 in
theorem rcmp_bad2 (m1 e1 m2 e2 : Int) (hm1 : I64 m1) (hm2 : I64 m2) (h1 : right m1 e1 = true) (h2 : right m2 e2 = false) (w : World) : Calls Tryd.prog 45 #[.agg #[.int .i64 m1, .int .i64 e1], .agg #[.int .i64 m2, .int .i64 e2]] w fun r w' => r = .returned (cmpRes (0, 10)) ∧ Below w.heap.size w w' := by
  go_enter Tryd.func45, Tryd.ntmps45
  go_wp2_with fail
  refine (ref_Right m1 e1 hm1 _).mono ?_
  rw [h1]
  rintro r W1 ⟨rfl, hb⟩
  have Hx := Keep.mk (((Box.new (w := w) (n := w.heap.size) [.int .i64 m1, .int .i64 e1] 23 (by first | rfl | simp)).alloc (.cells #[.int .i64 m2, .int .i64 e2] 23)).below hb (by simp only [World.size_alloc]; omega))
  have Hy := Keep.mk ((Box.new (w := (w.alloc (.cells #[.int .i64 m1, .int .i64 e1] 23))) (n := w.heap.size + 1) [.int .i64 m2, .int .i64 e2] 23 (by first | rfl | simp)).below hb (by simp only [World.size_alloc]; omega))
  have HB := Keep.mk (up (al2 w _ _) hb)
  have xc0 := Hx.out.cell 0 _ rfl
  have xf0 := Hx.out.froz 0
  have xc1 := Hx.out.cell 1 _ rfl
  have xf1 := Hx.out.froz 1
  have xl := Hx.out.lt
  have yc0 := Hy.out.cell 0 _ rfl
  have yf0 := Hy.out.froz 0
  have yc1 := Hy.out.cell 1 _ rfl
  have yf1 := Hy.out.froz 1
  have yl := Hy.out.lt
  go_wp2_with fail
  refine (ref_Right m2 e2 hm2 _).mono ?_
  rw [h2]
  rintro r W2 ⟨rfl, hb⟩
  clear xc0 xc1 xf0 xf1 xl yc0 yc1 yf0 yf1 yl
  replace Hx := Keep.mk (Hx.out.below hb Hx.out.lt)
  replace Hy := Keep.mk (Hy.out.below hb Hy.out.lt)
  replace HB := Keep.mk (up HB.out hb)
  have xc0 := Hx.out.cell 0 _ rfl
  have xf0 := Hx.out.froz 0
  have xc1 := Hx.out.cell 1 _ rfl
  have xf1 := Hx.out.froz 1
  have xl := Hx.out.lt
  have yc0 := Hy.out.cell 0 _ rfl
  have yf0 := Hy.out.froz 0
  have yc1 := Hy.out.cell 1 _ rfl
  have yf1 := Hy.out.froz 1
  have yl := Hy.out.lt
  go_wp2
  go_ret2
  exact ⟨rfl, HB.out⟩
set_option maxRecDepth 100000 in
set_option maxHeartbeats 2000000 in
theorem rcmp_ok (m1 e1 m2 e2 : Int) (hm1 : I64 m1) (hm2 : I64 m2) (h1 : right m1 e1 = true) (h2 : right m2 e2 = true) (w : World) : Calls Tryd.prog 45 #[.agg #[.int .i64 m1, .int .i64 e1], .agg #[.int .i64 m2, .int .i64 e2]] w fun r w' => r = .returned (cmpRes (cmpS m1 e1 m2 e2, 0)) ∧ Below w.heap.size w w' := by
  have HN1 := Keep.mk (digs_len m1.natAbs (by have := hm1.lo; have := hm1.hi; omega))
  have HN2 := Keep.mk (digs_len m2.natAbs (by have := hm2.lo; have := hm2.hi; omega))
  have HR1 := Keep.mk (right_exp h1)
  have HR2 := Keep.mk (right_exp h2)
  go_enter Tryd.func45, Tryd.ntmps45
  go_wp2_with fail
  refine (ref_Right m1 e1 hm1 _).mono ?_
  rw [h1]
  rintro r W1 ⟨rfl, hb⟩
  have Hx := Keep.mk (((Box.new (w := w) (n := w.heap.size) [.int .i64 m1, .int .i64 e1] 23 (by first | rfl | simp)).alloc (.cells #[.int .i64 m2, .int .i64 e2] 23)).below hb (by simp only [World.size_alloc]; omega))
  have Hy := Keep.mk ((Box.new (w := (w.alloc (.cells #[.int .i64 m1, .int .i64 e1] 23))) (n := w.heap.size + 1) [.int .i64 m2, .int .i64 e2] 23 (by first | rfl | simp)).below hb (by simp only [World.size_alloc]; omega))
  have HB := Keep.mk (up (al2 w _ _) hb)
  have xc0 := Hx.out.cell 0 _ rfl
  have xf0 := Hx.out.froz 0
  have xc1 := Hx.out.cell 1 _ rfl
  have xf1 := Hx.out.froz 1
  have xl := Hx.out.lt
  have yc0 := Hy.out.cell 0 _ rfl
  have yf0 := Hy.out.froz 0
  have yc1 := Hy.out.cell 1 _ rfl
  have yf1 := Hy.out.froz 1
  have yl := Hy.out.lt
  go_wp2_with fail
  refine (ref_Right m2 e2 hm2 _).mono ?_
  rw [h2]
  rintro r W2 ⟨rfl, hb⟩
  clear xc0 xc1 xf0 xf1 xl yc0 yc1 yf0 yf1 yl
  replace Hx := Keep.mk (Hx.out.below hb Hx.out.lt)
  replace Hy := Keep.mk (Hy.out.below hb Hy.out.lt)
  replace HB := Keep.mk (up HB.out hb)
  have xc0 := Hx.out.cell 0 _ rfl
  have xf0 := Hx.out.froz 0
  have xc1 := Hx.out.cell 1 _ rfl
  have xf1 := Hx.out.froz 1
  have xl := Hx.out.lt
  have yc0 := Hy.out.cell 0 _ rfl
  have yf0 := Hy.out.froz 0
  have yc1 := Hy.out.cell 1 _ rfl
  have yf1 := Hy.out.froz 1
  have yl := Hy.out.lt
  go_wp2_with fail
  refine (long_at m2 e2 hm2 _).mono ?_
  rintro r W3 ⟨A2, c2, rfl, hI2, hb⟩
  clear xc0 xc1 xf0 xf1 xl yc0 yc1 yf0 yf1 yl
  replace Hx := Keep.mk (Hx.out.below hb Hx.out.lt)
  replace Hy := Keep.mk (Hy.out.below hb Hy.out.lt)
  replace HB := Keep.mk (up HB.out hb)
  have xc0 := Hx.out.cell 0 _ rfl
  have xf0 := Hx.out.froz 0
  have xc1 := Hx.out.cell 1 _ rfl
  have xf1 := Hx.out.froz 1
  have xl := Hx.out.lt
  have yc0 := Hy.out.cell 0 _ rfl
  have yf0 := Hy.out.froz 0
  have yc1 := Hy.out.cell 1 _ rfl
  have yf1 := Hy.out.froz 1
  have yl := Hy.out.lt
  have HJ := Keep.mk hI2
  go_wp2_with fail
  have xlW3 := Hx.out.lt
  have ylW3 := Hy.out.lt
  refine wp_world (fun W => Box W (w.heap.size) [.int .i64 m1, .int .i64 e1] ∧ Box W (w.heap.size + 1) [.int .i64 m2, .int .i64 e2] ∧ Box W (W3.heap.size) [.bool (!decide (m2 < 0)), .slice A2 (digs m2.natAbs).length c2, .int .i64 e2] ∧ Below w.heap.size w W ∧ IntsAt W W.heap.size A2 c2 (digs m2.natAbs)) ⟨Hx.out.alloc _, Hy.out.alloc _, Box.new [.bool (!decide (m2 < 0)), .slice A2 (digs m2.natAbs).length c2, .int .i64 e2] _ rfl, up HB.out (al1 _ _), (HJ.out.below (al1 _ _) (Nat.le_refl _)).more (al1 _ _).size⟩ ?_
  clear xc0 xc1 xf0 xf1 xl yc0 yc1 yf0 yf1 yl
  clear Hx Hy HB HJ
  rintro W4 ⟨Hx, Hy, Hz, HB, HJ⟩
  replace Hx := Keep.mk Hx
  replace Hy := Keep.mk Hy
  replace Hz := Keep.mk Hz
  replace HB := Keep.mk HB
  replace HJ := Keep.mk HJ
  have xc0 := Hx.out.cell 0 _ rfl
  have xf0 := Hx.out.froz 0
  have xc1 := Hx.out.cell 1 _ rfl
  have xf1 := Hx.out.froz 1
  have xl := Hx.out.lt
  have yc0 := Hy.out.cell 0 _ rfl
  have yf0 := Hy.out.froz 0
  have yc1 := Hy.out.cell 1 _ rfl
  have yf1 := Hy.out.froz 1
  have yl := Hy.out.lt
  have zc0 := Hz.out.cell 0 _ rfl
  have zf0 := Hz.out.froz 0
  have zc1 := Hz.out.cell 1 _ rfl
  have zf1 := Hz.out.froz 1
  have zc2 := Hz.out.cell 2 _ rfl
  have zf2 := Hz.out.froz 2
  have zl := Hz.out.lt
  have HS : Keep (∀ w' : World, Below W4.heap.size W4 w' → Below W4.heap.size W4 w' ∧ w'.cell? ⟨w.heap.size, 0, none⟩ = some (.int .i64 m1) ∧ w'.cell? ⟨w.heap.size, 1, none⟩ = some (.int .i64 e1) ∧ w'.cell? ⟨W3.heap.size, 0, none⟩ = some (.bool (!decide (m2 < 0))) ∧ w'.cell? ⟨W3.heap.size, 1, none⟩ = some (.slice A2 (digs m2.natAbs).length c2) ∧ w'.cell? ⟨W3.heap.size, 2, none⟩ = some (.int .i64 e2)) := ⟨fun w' h => ⟨h, (h.cell xl).trans xc0, (h.cell xl).trans xc1, (h.cell zl).trans zc0, (h.cell zl).trans zc1, (h.cell zl).trans zc2⟩⟩
  go_upto_region 5 with fail
  go_cut [7] (fun s7 wx => ∃ (g : Nat) (neg : Bool) (A3 : Option Addr) (c3 : Nat) (os : List Nat), s7 = .pointer (some ⟨g, 0, none⟩) ∧ Keep (PlusOut (decide (m1 < 0)) (!decide (m2 < 0)) (digs m1.natAbs) (digs m2.natAbs) e1 e2 neg os) ∧ Keep (Box wx g [.bool neg, .slice A3 os.length c3, .int .i64 (pairE (digs m1.natAbs) (digs m2.natAbs) e1 e2)]) ∧ Keep (IntsAt wx wx.heap.size A3 c3 os) ∧ Keep (Below w.heap.size w wx))
  case first =>
    go_region_held3 (fun w' => Below W4.heap.size W4 w' ∧ w'.cell? ⟨w.heap.size, 0, none⟩ = some (.int .i64 m1) ∧ w'.cell? ⟨w.heap.size, 1, none⟩ = some (.int .i64 e1) ∧ w'.cell? ⟨W3.heap.size, 0, none⟩ = some (.bool (!decide (m2 < 0))) ∧ w'.cell? ⟨W3.heap.size, 1, none⟩ = some (.slice A2 (digs m2.natAbs).length c2) ∧ w'.cell? ⟨W3.heap.size, 2, none⟩ = some (.int .i64 e2))
      ((refine HS.out _ ?_; first | exact below_drew _ | exact up (And.left (by assumption)) (by assumption) | exact up (And.left (by assumption)) (al1 _ _) | exact up HB3.out (al1 _ _) | exact st1 (st1 (st1 HB3.out _ _ _ (by omega)) _ _ _ (by omega)) _ _ _ (by omega)))
      ((first
        | (go_at_call_of 68 (Value.agg #[.int .i64 m1, .int .i64 e1]); refine (long_at m1 e1 hm1 _).mono ?_; rintro r V1 ⟨A1, c1, rfl, hI1, hb1⟩; have HB1 : Keep (Below W4.heap.size W4 V1) := Keep.mk (up (And.left (by assumption)) hb1); have sz1 := HB1.out.size; (try have BZ := Keep.mk (((Box.new (w := W4) (n := W4.heap.size) [.bool false, .slice none 0 0, .int .i64 0] 86 rfl).below (below_drew _) (by simp only [World.size_alloc]; exact Nat.lt_succ_self _)).below hb1 (by show W4.heap.size < (W4.alloc _).heap.size; simp only [World.size_alloc]; exact Nat.lt_succ_self _))); (try have szB := BZ.out.lt))
        | (go_at_call 77; refine (plus_at _ _ A1 A2 c1 c2 _ _ _ _ (digs_digs _) (digs_digs _) (by have := HN1.out; omega) (by have := HN2.out; omega) (by have := HR1.out; omega) (by have := HR2.out; omega) _ (by first | exact hI1 | exact (hI1.below (al1 _ _) (Nat.le_refl _)).more (al1 _ _).size) (pair_read HJ.out (Below.refl _ _) (by assumption))).mono ?_; rintro r V3 ⟨neg, A3, c3, os, rfl, hP, hI3, hF3, hb3⟩; have HB3 : Keep (Below W4.heap.size W4 V3) := Keep.mk (up (And.left (by assumption)) hb3); have sz3 := HB3.out.size; (try replace BZ := Keep.mk (BZ.out.below hb3 BZ.out.lt)); (try have BZ := Keep.mk ((Box.new (w := V1) (n := V1.heap.size) [.bool false, .slice none 0 0, .int .i64 0] 86 rfl).below hb3 (by simp only [World.size_alloc]; exact Nat.lt_succ_self _))); (try (have z0 := BZ.out.cell 0 _ rfl; have z1 := BZ.out.cell 1 _ rfl; have z2 := BZ.out.cell 2 _ rfl; have zg0 := BZ.out.froz 0; have zg1 := BZ.out.froz 1; have zg2 := BZ.out.froz 2)))))
    all_goals
      go_wp2_with fail
      go_meet
      first
        | exact ⟨_, neg, A3, c3, os, rfl, ⟨hP⟩, ⟨((BZ.out.set (by simp) _).set (by simp) _).set (by simp) _⟩, ⟨(((hI3.apart (fun a h => by have h9 := hF3 a h; (try simp only [World.size_alloc] at h9); omega) _).apart (fun a h => by have h9 := hF3 a h; (try simp only [World.size_alloc] at h9); omega) _).apart (fun a h => by have h9 := hF3 a h; (try simp only [World.size_alloc] at h9); omega) _).more (by simp)⟩, ⟨up HB.out (And.left (by assumption))⟩⟩
        | exact ⟨_, neg, A3, c3, os, rfl, ⟨hP⟩, ⟨Box.new [.bool neg, .slice A3 os.length c3, .int .i64 _] _ rfl⟩, ⟨(hI3.below (al1 _ _) (Nat.le_refl _)).more (al1 _ _).size⟩, ⟨up HB.out (And.left (by assumption))⟩⟩
  case rest =>
    clear Hx Hy Hz HB HJ
    clear xc0 xc1 xf0 xf1 xl yc0 yc1 yf0 yf1 yl zc0 zc1 zc2 zf0 zf1 zf2 zl
    obtain ⟨g, neg, A3, c3, os, rfl, HP, HD0, HIK, HB⟩ := hcut
    generalize hE : pairE (digs m1.natAbs) (digs m2.natAbs) e1 e2 = E at *
    have d0 := HD0.out.cell 0 _ rfl
    have d1 := HD0.out.cell 1 _ rfl
    have HDig := Keep.mk HP.out.1
    have hfew := HP.out.2.1
    have HC := Keep.mk (cmp_norm h1 h2 HP.out)
    clear HP hE HS
    go_wp2_with fail
    go_loopg [8] os.length (fun gk i wr => ∃ k : Nat, k + gk = os.length ∧ i = .int .i64 k ∧ Keep (∀ d ∈ os.take k, d = 0) ∧ wr = wc)
    case atStart => exact ⟨0, by omega, rfl, ⟨by simp⟩, rfl⟩
    case round =>
      obtain ⟨k, hk, rfl, HZ, rfl⟩ := hrel
      by_cases hlt : k < os.length
      · obtain ⟨g1, o, rfl, hg, hc⟩ := HIK.out.at_ (by omega)
        have hck := hc k hlt
        have hcap := HIK.out.le
        clear hc
        by_cases hx : os[k] = 0
        · have HZ2 := Keep.mk (show ∀ d ∈ os.take (k + 1), d = 0 by
            intro d hd
            rw [List.take_succ_eq_append_getElem hlt] at hd
            rcases List.mem_append.1 hd with h | h
            · exact HZ.out d h
            · simp only [List.mem_singleton] at h; rw [h]; exact hx)
          rw [hx] at hck
          clear hx
          go_wp2
          go_roundg (gk - 1)
          case rel => exact ⟨k + 1, by omega, by go_num, HZ2, rfl⟩
          case measure => omega
        · have HV := Keep.mk (val_nz_of hlt hx)
          have hxb : ((os[k] : Int) != 0) = true := by rw [bne_iff_ne]; omega
          generalize os[k] = x at *
          clear hx
          cases neg
          · have HE := Keep.mk (show cmpS m1 e1 m2 e2 = 1 by rw [HC.out, if_neg HV.out]; rfl)
            go_wp2
            go_ret2
            exact ⟨by rw [HE.out]; rfl, HB.out⟩
          · have HE := Keep.mk (show cmpS m1 e1 m2 e2 = -1 by rw [HC.out, if_neg HV.out]; rfl)
            go_wp2
            go_ret2
            exact ⟨by rw [HE.out]; rfl, HB.out⟩
      · have HE := Keep.mk (show cmpS m1 e1 m2 e2 = 0 by rw [HC.out, if_pos (val_zero_of (fun d hd => HZ.out d (by rw [List.take_of_length_le (by omega)]; exact hd)))])
        go_wp2
        go_ret2
        exact ⟨by rw [HE.out]; rfl, HB.out⟩
theorem ref_Cmp (m1 e1 m2 e2 : Int) (hm1 : I64 m1) (hm2 : I64 m2) (w : World) : Calls Tryd.prog 45 #[.agg #[.int .i64 m1, .int .i64 e1], .agg #[.int .i64 m2, .int .i64 e2]] w fun r w' => r = .returned (cmpRes (cmpN m1 e1 m2 e2)) ∧ Below w.heap.size w w' := by
  unfold cmpN
  cases h1 : right m1 e1
  · exact rcmp_bad1 m1 e1 m2 e2 hm1 hm2 h1 w
  · cases h2 : right m2 e2
    · exact rcmp_bad2 m1 e1 m2 e2 hm1 hm2 h1 h2 w
    · exact rcmp_ok m1 e1 m2 e2 hm1 hm2 h1 h2 w
end Go.Proofs.YtljemfajjeoecaaDoor
