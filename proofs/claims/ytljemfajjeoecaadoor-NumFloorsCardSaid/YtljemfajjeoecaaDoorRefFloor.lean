/- The references' Floor. Conditions: the number is of int64 and int. -/
import Derived.Test.YtljemfajjeoecaaDoorRefSum
import Derived.Test.YtljemfajjeoecaaDoorRem
namespace Go.Proofs.YtljemfajjeoecaaDoor
open Go Go.RowKit Go.Proofs Th
attribute [local go_sem] Above.cell Above.frozen

theorem val_takeR (ds : List Nat) (hd : Digs ds) (k : Nat) : val (ds.take (ds.length - k)) = val ds / 10 ^ k := by
  by_cases h : k ≤ ds.length
  · have e : ds.take (ds.length - k) ++ ds.drop (ds.length - k) = ds := List.take_append_drop _ _
    have hv := val_append (ds.take (ds.length - k)) (ds.drop (ds.length - k))
    rw [e] at hv
    have hl : (ds.drop (ds.length - k)).length = k := by rw [List.length_drop]; omega
    have hlt := val_lt _ (hd.drop (ds.length - k))
    rw [hl] at hv hlt
    rw [hv, Nat.add_comm, Nat.add_mul_div_right _ _ (Nat.pow_pos (by omega)), Nat.div_eq_of_lt hlt]
    omega
  · rw [show ds.length - k = 0 by omega, List.take_zero]
    have h1 := val_lt ds hd
    have h2 : (10 : Nat) ^ ds.length ≤ 10 ^ k := Nat.pow_le_pow_right (by omega) (by omega)
    rw [Nat.div_eq_of_lt (by omega)]
    rfl
theorem flq_eq {m e : Int} (h : right m e = true) : flq m e = m.natAbs / 10 ^ (-e).toNat := by
  unfold flq
  split
  · rfl
  · have h1 := right_size h
    have h2 : (10 : Nat) ^ 18 ≤ 10 ^ (-e).toNat := Nat.pow_le_pow_right (by omega) (by omega)
    rw [Nat.div_eq_of_lt (by omega)]

/-- what the loop of Floor keeps: k rounds are to come -/
structure Flr (w wr : World) (z : Nat) (neg : Bool) (A : Option Addr) (c : Nat) (ds t : List Nat) (n k cut : Nat) : Prop where
  box : Box wr z [.bool neg, .slice A t.length c, .int .i64 (-(k : Int))]
  res : Box wr (w.heap.size + 1) [.int .i64 0, .int .i64 0]
  ints : IntsAt wr z A c t
  old : Below w.heap.size w wr
  t_eq : t = ds.take (ds.length - (n - k))
  cut_le : cut ≤ 9 * (n - k)
  cut_pos : k < n → 0 < cut
  le : k ≤ n
theorem Flr.skip {w wr : World} {z : Nat} {neg : Bool} {A : Option Addr} {c : Nat} {ds : List Nat} {n k cut : Nat} (h : Flr w wr z neg A c ds [] n (k + 1) cut) (hz : w.heap.size + 1 ≠ z) (hw : w.heap.size ≤ z) (hn : ds ≠ [] ∨ k + 1 < n) :
    Flr w (wr.setCell ⟨z, 2, none⟩ (.int .i64 (-(k : Int)))) z neg A c ds [] n k cut := by
  refine ⟨h.box.set (by simp) _, h.res.other (Ne.symm hz) _, h.ints.set (Nat.le_refl _) _, st1 h.old _ _ _ hw, ?_, by have := h.cut_le; omega, fun _ => ?_, by have := h.le; omega⟩
  · have := h.t_eq
    have hl := congrArg List.length this
    rw [List.length_take, List.length_nil] at hl
    rw [show ds.length - (n - k) = 0 by omega]; rfl
  · apply h.cut_pos
    rcases hn with hn | hn
    · have := h.t_eq
      have hl := congrArg List.length this
      have := List.length_pos_iff.2 hn
      rw [List.length_take, List.length_nil] at hl
      have := h.le
      omega
    · exact hn
theorem Flr.step {w wr : World} {z : Nat} {neg : Bool} {A : Option Addr} {c : Nat} {ds t : List Nat} {x n k cut : Nat} (h : Flr w wr z neg A c ds (t ++ [x]) n (k + 1) cut) (hz : w.heap.size + 1 ≠ z) (hw : w.heap.size ≤ z) (hd : Digs ds) (hl : val ds % 10 ≠ 0) :
    Flr w ((wr.setCell ⟨z, 1, none⟩ (.slice A t.length c)).setCell ⟨z, 2, none⟩ (.int .i64 (-(k : Int)))) z neg A c ds t n k (cut + x) := by
  have hi := h.ints.init t.length (by simp)
  rw [List.take_left] at hi
  have ht := h.t_eq
  have hlen := congrArg List.length ht
  rw [List.length_take, List.length_append, List.length_singleton] at hlen
  have hle := h.le
  have hx : x ≤ 9 := by
    have : x ∈ ds.take (ds.length - (n - (k + 1))) := by rw [← ht]; simp
    exact hd x (List.mem_of_mem_take this)
  refine ⟨(h.box.set (by simp) _).set (by simp) _, (h.res.other (Ne.symm hz) _).other (Ne.symm hz) _, (hi.set (Nat.le_refl _) _).set (Nat.le_refl _) _, st1 (st1 h.old _ _ _ hw) _ _ _ hw, ?_, by have := h.cut_le; omega, fun _ => ?_, by omega⟩
  · have e : (t ++ [x]).take t.length = t := List.take_left
    rw [← e, ht, List.take_take]
    congr 1
    omega
  · by_cases hk : k + 1 < n
    · have := h.cut_pos hk; omega
    · have hn : n - (k + 1) = 0 := by omega
      rw [hn, Nat.sub_zero, List.take_length] at ht
      rw [← ht, val_snoc] at hl
      omega

set_option maxRecDepth 100000 in
set_option maxHeartbeats 2000000 in
theorem rfloor_bad (m e : Int) (hm : I64 m) (h : right m e = false) (w : World) : Calls Tryd.prog 37 #[.agg #[.int .i64 m, .int .i64 e]] w fun r w' => r = .returned (numRes ((0, 0), 10)) ∧ Below w.heap.size w w' := by
  go_enter Tryd.func37, Tryd.ntmps37
  go_wp2_with fail
  refine (ref_Right m e hm _).mono ?_
  rw [h]
  rintro r W1 ⟨rfl, hb⟩
  have Hx := Keep.mk (((Box.new (w := w) (n := w.heap.size) [.int .i64 m, .int .i64 e] 23 (by first | rfl | simp)).alloc (.cells #[.int .i64 0, .int .i64 0] 23)).below hb (by simp only [World.size_alloc]; omega))
  have Hr := Keep.mk ((Box.new (w := (w.alloc (.cells #[.int .i64 m, .int .i64 e] 23))) (n := w.heap.size + 1) [.int .i64 0, .int .i64 0] 23 (by first | rfl | simp)).below hb (by simp only [World.size_alloc]; omega))
  have HB := Keep.mk (up (al2 w _ _) hb)
  have xc0 := Hx.out.cell 0 _ rfl
  have xf0 := Hx.out.froz 0
  have xc1 := Hx.out.cell 1 _ rfl
  have xf1 := Hx.out.froz 1
  have xl := Hx.out.lt
  have rc0 := Hr.out.cell 0 _ rfl
  have rf0 := Hr.out.froz 0
  have rc1 := Hr.out.cell 1 _ rfl
  have rf1 := Hr.out.froz 1
  have rl := Hr.out.lt
  go_wp2
  refine bodyPost_ret (v := numRes ((0, 0), 10)) ?_ rfl ⟨rfl, st1 (st1 HB.out _ _ _ (by omega)) _ _ _ (by omega)⟩
  simp [numRes, results, Tryd.results37, go_sem, rc0, rc1]
set_option maxRecDepth 100000 in
set_option maxHeartbeats 2000000 in
theorem rfloor_whole (m e : Int) (hm : I64 m) (h : right m e = true) (he : 0 ≤ e) (w : World) : Calls Tryd.prog 37 #[.agg #[.int .i64 m, .int .i64 e]] w fun r w' => r = .returned (numRes ((m, e), 0)) ∧ Below w.heap.size w w' := by
  have HV := Keep.mk (show norm (decide (m < 0)) (val (digs m.natAbs)) e = ((m, e), 0) by rw [val_digs]; exact normZ_right h)
  have HD := Keep.mk (digs_digs m.natAbs)
  have HN := Keep.mk (digs_len m.natAbs (by have := hm.lo; have := hm.hi; omega))
  have HE := right_exp h
  go_enter Tryd.func37, Tryd.ntmps37
  go_wp2_with fail
  refine (ref_Right m e hm _).mono ?_
  rw [h]
  rintro r W1 ⟨rfl, hb⟩
  have Hx := Keep.mk (((Box.new (w := w) (n := w.heap.size) [.int .i64 m, .int .i64 e] 23 (by first | rfl | simp)).alloc (.cells #[.int .i64 0, .int .i64 0] 23)).below hb (by simp only [World.size_alloc]; omega))
  have Hr := Keep.mk ((Box.new (w := (w.alloc (.cells #[.int .i64 m, .int .i64 e] 23))) (n := w.heap.size + 1) [.int .i64 0, .int .i64 0] 23 (by first | rfl | simp)).below hb (by simp only [World.size_alloc]; omega))
  have HB := Keep.mk (up (al2 w _ _) hb)
  have xc0 := Hx.out.cell 0 _ rfl
  have xf0 := Hx.out.froz 0
  have xc1 := Hx.out.cell 1 _ rfl
  have xf1 := Hx.out.froz 1
  have xl := Hx.out.lt
  have rc0 := Hr.out.cell 0 _ rfl
  have rf0 := Hr.out.froz 0
  have rc1 := Hr.out.cell 1 _ rfl
  have rf1 := Hr.out.froz 1
  have rl := Hr.out.lt
  go_wp2_with fail
  refine (long_at m e hm _).mono ?_
  rintro r W2 ⟨A2, c2, rfl, hI2, hb⟩
  clear xc0 xc1 xf0 xf1 xl rc0 rc1 rf0 rf1 rl
  replace Hx := Keep.mk (Hx.out.below hb Hx.out.lt)
  replace Hr := Keep.mk (Hr.out.below hb Hr.out.lt)
  replace HB := Keep.mk (up HB.out hb)
  have xc0 := Hx.out.cell 0 _ rfl
  have xf0 := Hx.out.froz 0
  have xc1 := Hx.out.cell 1 _ rfl
  have xf1 := Hx.out.froz 1
  have xl := Hx.out.lt
  have rc0 := Hr.out.cell 0 _ rfl
  have rf0 := Hr.out.froz 0
  have rc1 := Hr.out.cell 1 _ rfl
  have rf1 := Hr.out.froz 1
  have rl := Hr.out.lt
  have HJ := Keep.mk hI2
  go_wp2_with fail
  have xlW2 := Hx.out.lt
  have rlW2 := Hr.out.lt
  refine wp_world (fun W => Box W (w.heap.size) [.int .i64 m, .int .i64 e] ∧ Box W (w.heap.size + 1) [.int .i64 0, .int .i64 0] ∧ Box W (W2.heap.size) [.bool (decide (m < 0)), .slice A2 (digs m.natAbs).length c2, .int .i64 e] ∧ Below w.heap.size w W ∧ IntsAt W W2.heap.size A2 c2 (digs m.natAbs)) ⟨Hx.out.alloc _, Hr.out.alloc _, Box.new [.bool (decide (m < 0)), .slice A2 (digs m.natAbs).length c2, .int .i64 e] _ rfl, up HB.out (al1 _ _), hI2.below (al1 _ _) (Nat.le_refl _)⟩ ?_
  clear xc0 xc1 xf0 xf1 xl rc0 rc1 rf0 rf1 rl
  clear Hx Hr HB HJ
  rintro W3 ⟨Hx, Hr, Hz, HB, HJ⟩
  replace Hx := Keep.mk Hx
  replace Hr := Keep.mk Hr
  replace Hz := Keep.mk Hz
  replace HB := Keep.mk HB
  replace HJ := Keep.mk HJ
  have xc0 := Hx.out.cell 0 _ rfl
  have xf0 := Hx.out.froz 0
  have xc1 := Hx.out.cell 1 _ rfl
  have xf1 := Hx.out.froz 1
  have xl := Hx.out.lt
  have rc0 := Hr.out.cell 0 _ rfl
  have rf0 := Hr.out.froz 0
  have rc1 := Hr.out.cell 1 _ rfl
  have rf1 := Hr.out.froz 1
  have rl := Hr.out.lt
  have zc0 := Hz.out.cell 0 _ rfl
  have zf0 := Hz.out.froz 0
  have zc1 := Hz.out.cell 1 _ rfl
  have zf1 := Hz.out.froz 1
  have zc2 := Hz.out.cell 2 _ rfl
  have zf2 := Hz.out.froz 2
  have zl := Hz.out.lt
  go_loop [5] (fun c => c = .int .i64 0) (fun _ => 0)
  case atStart => rfl
  case round =>
    obtain rfl := hrel
    go_wp2_with fail
    refine (short_as _ A2 c2 _ e HD.out (by have := HN.out; omega) (by omega) m e 0 HV.out _ (HJ.out.more (by omega))).mono ?_
    rintro r W4 ⟨rfl, hb⟩
    clear xc0 xc1 xf0 xf1 xl rc0 rc1 rf0 rf1 rl zc0 zc1 zc2 zf0 zf1 zf2 zl
    replace Hx := Keep.mk (Hx.out.below hb Hx.out.lt)
    replace Hr := Keep.mk (Hr.out.below hb Hr.out.lt)
    replace Hz := Keep.mk (Hz.out.below hb Hz.out.lt)
    replace HB := Keep.mk (up HB.out hb)
    have xc0 := Hx.out.cell 0 _ rfl
    have xf0 := Hx.out.froz 0
    have xc1 := Hx.out.cell 1 _ rfl
    have xf1 := Hx.out.froz 1
    have xl := Hx.out.lt
    have rc0 := Hr.out.cell 0 _ rfl
    have rf0 := Hr.out.froz 0
    have rc1 := Hr.out.cell 1 _ rfl
    have rf1 := Hr.out.froz 1
    have rl := Hr.out.lt
    have zc0 := Hz.out.cell 0 _ rfl
    have zf0 := Hz.out.froz 0
    have zc1 := Hz.out.cell 1 _ rfl
    have zf1 := Hz.out.froz 1
    have zc2 := Hz.out.cell 2 _ rfl
    have zf2 := Hz.out.froz 2
    have zl := Hz.out.lt
    go_wp2
    refine bodyPost_ret (v := numRes ((m, e), 0)) ?_ rfl ⟨rfl, st1 (st1 HB.out _ _ _ (by omega)) _ _ _ (by omega)⟩
    simp [numRes, results, Tryd.results37, go_sem, rc0, rc1]
set_option maxRecDepth 100000 in
set_option maxHeartbeats 2000000 in
theorem rfloor_low (m e : Int) (hm : I64 m) (h : right m e = true) (he : e < 0) (hm0 : m ≠ 0) (p q k : Int) (hr : floorLow m e = ((p, q), k)) (w : World) : Calls Tryd.prog 37 #[.agg #[.int .i64 m, .int .i64 e]] w fun r w' => r = .returned (numRes ((p, q), k)) ∧ Below w.heap.size w w' := by
  have HL := Keep.mk (show val (digs m.natAbs) % 10 ≠ 0 by rw [val_digs]; exact (right_spec h hm0).2.1)
  have HNE := Keep.mk (show digs m.natAbs ≠ [] by intro h0; have := digs_nil h0; omega)
  have HT := Keep.mk (val_takeR (digs m.natAbs) (digs_digs _) (-e).toNat)
  have HR := Keep.mk hr
  clear hr
  obtain ⟨n, hn⟩ := Int.eq_ofNat_of_zero_le (show 0 ≤ -e by omega)
  obtain rfl : e = -(n : Int) := by omega
  clear hn
  have hnn : (-(-(n : Int))).toNat = n := by omega
  rw [hnn] at HT
  clear hnn
  have hn0 : 0 < n := by omega
  have HD := Keep.mk (digs_digs m.natAbs)
  have HN := Keep.mk (digs_len m.natAbs (by have := hm.lo; have := hm.hi; omega))
  have HE := right_exp h
  go_enter Tryd.func37, Tryd.ntmps37
  go_wp2_with fail
  refine (ref_Right m (-(n : Int)) hm _).mono ?_
  rw [h]
  rintro r W1 ⟨rfl, hb⟩
  have Hx := Keep.mk (((Box.new (w := w) (n := w.heap.size) [.int .i64 m, .int .i64 (-(n : Int))] 23 (by first | rfl | simp)).alloc (.cells #[.int .i64 0, .int .i64 0] 23)).below hb (by simp only [World.size_alloc]; omega))
  have Hr := Keep.mk ((Box.new (w := (w.alloc (.cells #[.int .i64 m, .int .i64 (-(n : Int))] 23))) (n := w.heap.size + 1) [.int .i64 0, .int .i64 0] 23 (by first | rfl | simp)).below hb (by simp only [World.size_alloc]; omega))
  have HB := Keep.mk (up (al2 w _ _) hb)
  have xc0 := Hx.out.cell 0 _ rfl
  have xf0 := Hx.out.froz 0
  have xc1 := Hx.out.cell 1 _ rfl
  have xf1 := Hx.out.froz 1
  have xl := Hx.out.lt
  have rc0 := Hr.out.cell 0 _ rfl
  have rf0 := Hr.out.froz 0
  have rc1 := Hr.out.cell 1 _ rfl
  have rf1 := Hr.out.froz 1
  have rl := Hr.out.lt
  go_wp2_with fail
  refine (long_at m (-(n : Int)) hm _).mono ?_
  rintro r W2 ⟨A2, c2, rfl, hI2, hb⟩
  clear xc0 xc1 xf0 xf1 xl rc0 rc1 rf0 rf1 rl
  replace Hx := Keep.mk (Hx.out.below hb Hx.out.lt)
  replace Hr := Keep.mk (Hr.out.below hb Hr.out.lt)
  replace HB := Keep.mk (up HB.out hb)
  have xc0 := Hx.out.cell 0 _ rfl
  have xf0 := Hx.out.froz 0
  have xc1 := Hx.out.cell 1 _ rfl
  have xf1 := Hx.out.froz 1
  have xl := Hx.out.lt
  have rc0 := Hr.out.cell 0 _ rfl
  have rf0 := Hr.out.froz 0
  have rc1 := Hr.out.cell 1 _ rfl
  have rf1 := Hr.out.froz 1
  have rl := Hr.out.lt
  have HJ := Keep.mk hI2
  go_upto_block 0 with fail
  have xlW2 := Hx.out.lt
  have rlW2 := Hr.out.lt
  refine wp_world (fun W => Box W (w.heap.size) [.int .i64 m, .int .i64 (-(n : Int))] ∧ Box W (w.heap.size + 1) [.int .i64 0, .int .i64 0] ∧ Box W (W2.heap.size) [.bool (decide (m < 0)), .slice A2 (digs m.natAbs).length c2, .int .i64 (-(n : Int))] ∧ Below w.heap.size w W ∧ IntsAt W W2.heap.size A2 c2 (digs m.natAbs)) ⟨Hx.out.alloc _, Hr.out.alloc _, Box.new [.bool (decide (m < 0)), .slice A2 (digs m.natAbs).length c2, .int .i64 (-(n : Int))] _ rfl, up HB.out (al1 _ _), hI2.below (al1 _ _) (Nat.le_refl _)⟩ ?_
  clear xc0 xc1 xf0 xf1 xl rc0 rc1 rf0 rf1 rl
  clear Hx Hr HB HJ
  rintro W3 ⟨Hx, Hr, Hz, HB, HJ⟩
  replace Hx := Keep.mk Hx
  replace Hr := Keep.mk Hr
  replace Hz := Keep.mk Hz
  replace HB := Keep.mk HB
  replace HJ := Keep.mk HJ
  have xc0 := Hx.out.cell 0 _ rfl
  have xf0 := Hx.out.froz 0
  have xc1 := Hx.out.cell 1 _ rfl
  have xf1 := Hx.out.froz 1
  have xl := Hx.out.lt
  have rc0 := Hr.out.cell 0 _ rfl
  have rf0 := Hr.out.froz 0
  have rc1 := Hr.out.cell 1 _ rfl
  have rf1 := Hr.out.froz 1
  have rl := Hr.out.lt
  have zc0 := Hz.out.cell 0 _ rfl
  have zf0 := Hz.out.froz 0
  have zc1 := Hz.out.cell 1 _ rfl
  have zf1 := Hz.out.froz 1
  have zc2 := Hz.out.cell 2 _ rfl
  have zf2 := Hz.out.froz 2
  have zl := Hz.out.lt
  have hn64 : n ≤ 64 := by omega
  have zr : w.heap.size + 1 ≠ W2.heap.size := by omega
  have zw : w.heap.size ≤ W2.heap.size := by omega
  have HF := Keep.mk (show Flr w W3 W2.heap.size (decide (m < 0)) A2 c2 (digs m.natAbs) (digs m.natAbs) n n 0 from ⟨Hz.out, Hr.out, HJ.out, HB.out, by simp, by omega, fun h => absurd h (by omega), Nat.le_refl _⟩)
  clear xc0 xc1 xf0 xf1 xl rc0 rc1 rf0 rf1 rl zc0 zc1 zc2 zf0 zf1 zf2 zl
  clear Hx Hr Hz HB HJ
  go_cut [5] (fun s5 wx => ∃ (t : List Nat) (cut : Nat), s5 = .int .i64 cut ∧ cut ≤ 1000 ∧ Keep (Flr w wx W2.heap.size (decide (m < 0)) A2 c2 (digs m.natAbs) t n 0 cut))
  case first =>
    go_wp2_with fail
    go_loopg [5] n (fun gk c wr => ∃ (t : List Nat) (cut : Nat), c = .int .i64 cut ∧ Keep (Flr w wr W2.heap.size (decide (m < 0)) A2 c2 (digs m.natAbs) t n gk cut))
    case atStart => exact ⟨_, 0, rfl, HF⟩
    case round =>
      clear HF
      obtain ⟨t, cut, rfl, HK⟩ := hrel
      have K := HK.out
      have z1 := K.box.cell 1 _ rfl
      have z2 := K.box.cell 2 _ rfl
      have f1 := K.box.froz 1
      have f2 := K.box.froz 2
      have zl := K.box.lt
      have hcut : cut ≤ 600 := by have := K.cut_le; omega
      cases gk with
      | zero =>
        rw [show (-((0 : Nat) : Int)) = 0 by rfl] at z2
        clear K
        go_wp2_with fail
        go_meet
        exact ⟨t, cut, rfl, by omega, HK⟩
      | succ k =>
        by_cases ht : t = []
        · subst ht
          have HS := Keep.mk (K.skip zr zw (Or.inl HNE.out))
          rw [List.length_nil] at z1
          have hk := K.le
          clear K
          go_wp2_with fail
          go_roundg k
          case rel => exact ⟨[], cut, rfl, by rw [show -((k : Int) + 1) + 1 = -(k : Int) by omega]; exact HS⟩
          case measure => omega
        · obtain ⟨t, x, rfl⟩ := snoc_of ht
          have HS := Keep.mk (K.step zr zw HD.out HL.out)
          obtain ⟨g, o, rfl, hg, hc⟩ := K.ints.at_ (by simp)
          have hc0 := hc t.length (by simp)
          have hcap := K.ints.le
          have hcm := K.ints.cap
          unfold maxLen at hcm
          simp only [List.getElem_concat_length] at hc0
          simp only [List.length_append, List.length_cons, List.length_nil, Nat.zero_add] at z1 hcap
          have hx9 : x ≤ 9 := by
            have hm : x ∈ (digs m.natAbs).take ((digs m.natAbs).length - (n - (k + 1))) := by rw [← K.t_eq]; simp
            exact HD.out x (List.mem_of_mem_take hm)
          have hk := K.le
          clear K hc ht
          go_wp2_with fail
          go_roundg k
          case rel => exact ⟨t, cut + x, by go_num, by rw [show -((k : Int) + 1) + 1 = -(k : Int) by omega]; exact HS⟩
          case measure => omega
  case rest =>
    clear HF
    obtain ⟨t, cut, rfl, hcut, HK⟩ := hcut
    have K := HK.out
    have z0 := K.box.cell 0 _ rfl
    have z1 := K.box.cell 1 _ rfl
    have z2 := K.box.cell 2 _ rfl
    rw [show (-((0 : Nat) : Int)) = 0 by rfl] at z2
    have zl := K.box.lt
    have hpos : 0 < cut := K.cut_pos hn0
    have HRs := Keep.mk K.res
    have HI := Keep.mk (K.ints.more (Nat.le_of_lt zl))
    have HO := Keep.mk K.old
    have HTv := Keep.mk (show val t = flq m (-(n : Int)) by have h1 := K.t_eq; rw [Nat.sub_zero] at h1; rw [flq_eq h, show (-(-(n : Int))).toNat = n by omega, h1, HT.out, val_digs])
    have hDt : Digs t := by rw [K.t_eq]; exact HD.out.take _
    have HDt := Keep.mk hDt
    have hlt : t.length ≤ 19 := by rw [K.t_eq, List.length_take]; have := HN.out; omega
    clear K HK hDt
    by_cases hneg : m < 0
    · rw [decide_eq_true hneg] at z0
      have HP : Keep (∀ os neg, PlusOut true true t [1] 0 0 neg os → norm neg (val os) 0 = ((p, q), k)) := ⟨fun os neg hP => by
        rw [← HR.out]
        unfold floorLow
        rw [if_pos hneg, decide_eq_true hneg, ← HTv.out]
        obtain ⟨_, _, hs⟩ := hP
        have he : pairE t [1] 0 0 = 0 := by unfold pairE low; split <;> (try split) <;> (try split) <;> simp_all
        rw [he, show val [1] = 1 from rfl] at hs
        obtain ⟨h1, h2⟩ := sg_nz hs
        unfold sg at h1 h2
        simp only [↓reduceIte] at h1 h2
        have e1 : val os = val t + 1 := by rw [h1]; simp; omega
        rw [e1]
        congr 1
        rw [h2 (by omega), decide_eq_true_eq]
        simp; omega⟩
      have he0 : pairE t [1] 0 0 = 0 := by unfold pairE low; split <;> (try split) <;> (try split) <;> simp_all
      have HE0 := Keep.mk he0
      clear he0 hneg
      go_wp2_with fail
      have hs := al1 wc (.cells #[.int .i64 1] 3)
      refine (plus_at true true A2 (some ⟨wc.heap.size, 0, none⟩) c2 1 t [1] 0 0 HDt.out (by intro d hd; simp at hd; omega) (by omega) (by simp) (by omega) (by omega) _ ((HI.out.below hs (Nat.le_refl _)).more hs.size) ((IntsAt.one 1 1 rfl rfl).more (by simp))).mono ?_
      rintro r V1 ⟨neg, A3, c3, os, rfl, hP, hI3, hF3, hb1⟩
      rw [HE0.out]
      go_wp2_with fail
      refine (short_as neg A3 c3 os 0 hP.1 (by have := hP.2.1; omega) (by omega) p q k (HP.out os neg hP) _ hI3).mono ?_
      rintro r V2 ⟨rfl, hb2⟩
      have HQ := Keep.mk (((HRs.out.below hs HRs.out.lt).below hb1 (Nat.lt_of_lt_of_le HRs.out.lt hs.size)).below hb2 (Nat.lt_of_lt_of_le HRs.out.lt (Nat.le_trans hs.size hb1.size)))
      have q0 := HQ.out.cell 0 _ rfl
      have q1 := HQ.out.cell 1 _ rfl
      have g0 := HQ.out.froz 0
      have g1 := HQ.out.froz 1
      go_wp2
      refine bodyPost_ret (v := numRes ((p, q), k)) ?_ rfl ⟨rfl, st1 (st1 (up (up (up HO.out hs) hb1) hb2) _ _ _ (by omega)) _ _ _ (by omega)⟩
      simp [numRes, results, Tryd.results37, go_sem, q0, q1]
    · rw [decide_eq_false hneg] at z0
      have HP := Keep.mk (show norm false (val t) 0 = ((p, q), k) by rw [← HR.out]; unfold floorLow; rw [if_neg hneg, decide_eq_false hneg, ← HTv.out]; rfl)
      clear hneg
      go_wp2_with fail
      refine (short_as false A2 c2 t 0 HDt.out (by omega) (by omega) p q k HP.out _ HI.out).mono ?_
      rintro r V2 ⟨rfl, hb2⟩
      have HQ := Keep.mk (HRs.out.below hb2 HRs.out.lt)
      have q0 := HQ.out.cell 0 _ rfl
      have q1 := HQ.out.cell 1 _ rfl
      have g0 := HQ.out.froz 0
      have g1 := HQ.out.froz 1
      go_wp2
      refine bodyPost_ret (v := numRes ((p, q), k)) ?_ rfl ⟨rfl, st1 (st1 (up HO.out hb2) _ _ _ (by omega)) _ _ _ (by omega)⟩
      simp [numRes, results, Tryd.results37, go_sem, q0, q1]
theorem ref_Floor (m e : Int) (hm : I64 m) (w : World) : Calls Tryd.prog 37 #[.agg #[.int .i64 m, .int .i64 e]] w fun r w' => r = .returned (numRes (floorN m e)) ∧ Below w.heap.size w w' := by
  unfold floorN
  cases h : right m e
  · exact rfloor_bad m e hm h w
  · by_cases he : 0 ≤ e
    · rw [if_pos rfl, if_pos he]; exact rfloor_whole m e hm h he w
    · rw [if_pos rfl, if_neg he]
      have hm0 : m ≠ 0 := by rintro rfl; simp [right] at h; omega
      obtain ⟨⟨⟨p, q⟩, k⟩, hr⟩ : ∃ x, floorLow m e = x := ⟨_, rfl⟩
      rw [hr]; exact rfloor_low m e hm h (by omega) hm0 p q k hr w
end Go.Proofs.YtljemfajjeoecaaDoor
