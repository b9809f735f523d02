/- The references' wide: digits with noughts behind and ahead. Conditions: the digits and the noughts are no more than some thousands.
The references' total: the sum, or the difference, of two rows of digits as long as one another. Conditions: the digits are no more than a million.
The references' pair: both rows of digits with one exponent, as long as one another. Conditions: digits and exponents are no more than a thousand. -/
import Derived.Test.YtljemfajjeoecaaDoorRefLong
import Derived.Test.YtljemfajjeoecaaDoorRefRight
import Derived.Deep.OwnRows
import Derived.Laws.OwnMore
import Derived.Deep.RegionHeld3
namespace Go.Proofs.YtljemfajjeoecaaDoor
open Go Go.RowKit Go.Proofs Th

theorem wideL_eq (ds : List Nat) (k many : Nat) : wideL ds k many = List.replicate (many - (ds ++ List.replicate k 0).length) 0 ++ (ds ++ List.replicate k 0) := by unfold wideL; simp

set_option maxRecDepth 100000 in
set_option maxHeartbeats 1000000 in
theorem ref_wide (neg : Bool) (A : Option Addr) (c : Nat) (ds : List Nat) (xe e : Int) (many : Nat) (hl : ds.length ≤ 10000) (he : -10000 ≤ e ∧ xe ≤ 10000) (hm : many ≤ 100000) (w : World) (hI : IntsAt w w.heap.size A c ds) :
    Calls Tryd.prog 145 #[.agg #[.bool neg, .slice A ds.length c, .int .i64 xe], .int .i64 e, .int .i64 many] w fun r w' =>
      ∃ A' c', r = .returned (.slice A' (wideL ds (xe - e).toNat many).length c') ∧ IntsAt w' w'.heap.size A' c' (wideL ds (xe - e).toNat many) ∧ Below w.heap.size w w' := by
  obtain ⟨he0, he1⟩ := he
  have HI := Keep.mk hI
  clear hI
  go_enter Tryd.func145, Tryd.ntmps145
  go_wp2_with (at_builtin; refine wpList_append_ints rfl (.tmp 9) (.tmp 11) rfl (w.heap.size + 1) _ [] rfl (OwnInts.empty (by simp) (by omega)) w.heap.size A ds.length c ds rfl rfl (HI.out.below (al2 _ _ _) (Nat.le_refl _)) (by simp; omega) (by simp) ?_; intro v1 w1 hown1 hb1; obtain ⟨A1, c1, rfl, hI1⟩ := hown1.ints; have HO1 := Keep.mk hown1; clear hown1 hI1)
  have hb2 := (al2 w (.cells #[.bool neg, .slice A ds.length c, .int .i64 xe] 86) (.cells #[] 3)).trans (hb1.mono (by omega))
  have HX := Keep.mk (((Box.new (w := w) [.bool neg, .slice A ds.length c, .int .i64 xe] 86 rfl).alloc (.cells #[] 3)).below hb1 (by omega))
  clear hb1
  go_loopg [7, 8] (xe - e).toNat (fun gk d i wr => ∃ (v : Value) (k : Nat), Keep (gk + k = (xe - e).toNat) ∧ d = v ∧ i = .int .i64 (e + k) ∧ Keep (OwnInts wr (w.heap.size + 1) v (ds ++ List.replicate k 0)) ∧ Box wr w.heap.size [.bool neg, .slice A ds.length c, .int .i64 xe] ∧ Below w.heap.size w wr)
  case atStart => exact ⟨_, 0, ⟨by omega⟩, rfl, by simp, ⟨by simpa using HO1.out⟩, HX.out, hb2⟩
  case round =>
    obtain ⟨v, k, HK, rfl, rfl, HO, HX, hb⟩ := hrel
    have x2 := HX.cell 2 _ rfl
    have lt := HX.lt
    have hk := HK.out
    have hk2 : k ≤ 20000 := by omega
    by_cases hlt : e + k < xe
    · have hgk : gk ≠ 0 := by omega
      clear hk
      go_wp2_with (at_builtin; (refine wpList_append_ints rfl (.tmp 20) (.tmp 21) rfl (w.heap.size + 1) _ (ds ++ List.replicate k 0) (by rfl) (HO.out.alloc _) (wr.heap.size + 1) _ 1 1 [0] rfl (by rfl) (IntsAt.one 0 0 rfl rfl) (by simp; omega) (by simp; omega) ?_; intro v2 w2 hown2 hb2; have HO2 := Keep.mk hown2; have HX2 := Keep.mk ((HX.alloc (.cells #[.int .i64 0] 3)).below hb2 (by omega)); have HB2 := Keep.mk ((up hb (al1 wr (.cells #[.int .i64 0] 3))).trans (hb2.mono (by omega))); clear hown2 hb2))
      go_roundg (gk - 1)
      case rel => exact ⟨v2, k + 1, ⟨by have := HK.out; omega⟩, rfl, by go_num, ⟨by have h := HO2.out; rw [List.append_assoc, show [0] = List.replicate 1 0 from rfl, List.replicate_append_replicate] at h; exact h⟩, HX2.out, HB2.out⟩
      case measure => omega
    · have hkk : (xe - e).toNat = k ∨ ((xe - e).toNat = 0 ∧ k = 0) := by omega
      have hke : k = (xe - e).toNat := by omega
      subst hke
      obtain ⟨A2, c2, rfl, hI2⟩ := HO.out.ints
      have HI2 := Keep.mk HO.out
      clear hk hkk HK HO hI2
      generalize hys : ds ++ List.replicate (xe - e).toNat 0 = ys at *
      have hyl : ys.length ≤ 30000 := by rw [← hys]; simp; omega
      have HE := Keep.mk (wideL_eq ds (xe - e).toNat many)
      rw [hys] at HE
      clear hys hk2
      go_wp2_with fail
      clear x2 HX hlt
      go_loopg [7] many (fun gk d wr' => ∃ (A' : Option Addr) (c' j : Nat), Keep (gk + j = many) ∧ Keep (j ≤ many - ys.length) ∧ d = .slice A' (j + ys.length) c' ∧ Keep (OwnInts wr' (w.heap.size + 1) (.slice A' (j + ys.length) c') (List.replicate j 0 ++ ys)) ∧ Below w.heap.size w wr' ∧ w.heap.size < wr'.heap.size)
      case atStart => exact ⟨A2, c2, 0, ⟨by omega⟩, ⟨by omega⟩, by simp, ⟨by simpa using HI2.out⟩, hb, lt⟩
      case round =>
        clear HI2 hb lt
        obtain ⟨A', c', j, HK, HJ, rfl, HO, hb, lt⟩ := hrel
        have hk := HK.out
        have hj := HJ.out
        have hj2 : j ≤ 100000 := by omega
        by_cases hlt : j + ys.length < many
        · go_upto_region 7 with fail
          have hgk : gk ≠ 0 := by omega
          have HI3 := Keep.mk HO.out.read
          clear HO hk hj
          generalize hv : Value.slice A' (j + ys.length) c' = v at *
          have HV := Keep.mk hv
          clear hv
          go_wp2_with (at_builtin; (refine wpList_append_ints rfl (.tmp 27) (.tmp 28) rfl (w.heap.size + 1) _ [0] (by rfl) (OwnInts.one 0 rfl (by omega)) wr.heap.size A' (j + ys.length) c' (List.replicate j 0 ++ ys) (by simp) (by exact HV.out.symm) (HI3.out.below (al1 _ _) (Nat.le_refl _)) (by simp; omega) (by simp; omega) ?_; intro v2 w2 hown2 hb2; obtain ⟨A3, c3, hv3, _⟩ := hown2.ints; have HV3 := Keep.mk hv3; have HO3 := Keep.mk hown2; have HB3 := Keep.mk ((up hb (al1 wr (.cells #[.int .i64 0] 3))).trans (hb2.mono (by omega))); have lt3 : w.heap.size < w2.heap.size := by { have h5 := hb2.size; simp at h5; omega }; clear hown2 hb2 hv3))
          go_roundg (gk - 1)
          case rel =>
            have e : [0] ++ (List.replicate j 0 ++ ys) = List.replicate (j + 1) 0 ++ ys := rfl
            have h3 := HO3.out
            have hv := HV3.out
            rw [e] at h3 hv
            have hl : (List.replicate (j + 1) 0 ++ ys).length = j + 1 + ys.length := by simp
            rw [hl] at hv
            subst hv
            exact ⟨A3, c3, j + 1, ⟨by have := HK.out; omega⟩, ⟨by have := HJ.out; omega⟩, rfl, ⟨h3⟩, HB3.out, lt3⟩
          case measure => omega
        · have HW := Keep.mk (show wideL ds (xe - e).toNat many = List.replicate j 0 ++ ys by rw [HE.out]; congr 2; omega)
          have HO2 := Keep.mk HO.out.read
          clear hk hj HK HJ HO
          have hl : (List.replicate j 0 ++ ys).length = j + ys.length := by simp
          go_wp2
          go_ret
          exact ⟨A', c', by rw [HW.out, hl]; rfl, by rw [HW.out]; exact HO2.out, hb⟩
end Go.Proofs.YtljemfajjeoecaaDoor
namespace Go.Proofs.YtljemfajjeoecaaDoor
open Go Go.RowKit Go.Proofs Th
attribute [local go_sem] Above.cell Above.frozen

theorem Box.made {w : World} {n : Nat} (t : TypeId) (h : w.heap.size = n) (k : Nat) : Box (w.alloc (.cells (madeCells #[.int .i64 0] k) t)) n ((List.replicate k 0).map iv) := by
  have e : madeCells #[.int .i64 0] k = ((List.replicate k 0).map iv).toArray := by
    apply Array.ext'
    rw [toList_madeCells_one]
    simp [iv]
  rw [e]
  exact Box.new _ t h
theorem Box.ints {w : World} {g : Nat} {ds : List Nat} (h : Box w g (ds.map iv)) (hl : ds.length ≤ 1000000) : IntsAt w w.heap.size (some ⟨g, 0, none⟩) ds.length ds :=
  ⟨Nat.le_refl _, by simp [maxLen]; omega, fun _ => ⟨g, 0, rfl, h.lt, fun j hj => by have := h.cell j (iv ds[j]) (by simp [hj]); simpa [iv] using this⟩⟩
theorem tot_set (k d : Nat) (os : List Nat) (v : Value) (hv : v = iv d) : ((List.replicate (k + 1) 0 ++ os).map iv).set k v = (List.replicate k 0 ++ d :: os).map iv := by
  subst hv
  rw [← List.map_set, List.replicate_succ', List.append_assoc, List.set_append_right _ _ (by simp)]
  simp

theorem tot_box {W : World} {n k d : Nat} {os : List Nat} {v : Value} (h : Box W n ((List.replicate (k + 1) 0 ++ os).map iv)) (hv : v = iv d) : Box (W.setCell ⟨n, k, none⟩ v) n ((List.replicate k 0 ++ d :: os).map iv) := by
  rw [← tot_set k d os v hv]
  exact h.set (by simp; omega) _
theorem iv_eq {x : Int} {d : Nat} (h : x = d) : Value.int .i64 x = iv d := by unfold iv; rw [h]

set_option maxRecDepth 100000 in
set_option maxHeartbeats 1000000 in
theorem ref_total_add (A A2 : Option Addr) (c c2 : Nat) (a b : List Nat) (ha : Digs a) (hb : Digs b) (hl : a.length = b.length) (hm : a.length ≤ 1000000) (h0 : 0 ≤ (val a : Int) + 1 * val b) (h1 : (val a : Int) + 1 * val b < (10 ^ a.length : Nat))
    (w : World) (hI : IntsAt w w.heap.size A c a) (hJ : IntsAt w w.heap.size A2 c2 b) :
    Calls Tryd.prog 114 #[.slice A a.length c, .slice A2 b.length c2, .bool false] w fun r w' => ∃ os, r = .returned (.slice (some ⟨w.heap.size, 0, none⟩) a.length a.length) ∧ Box w' w.heap.size (os.map iv) ∧ os.length = a.length ∧ Digs os ∧ (val os : Int) = val a + 1 * val b ∧ Below w.heap.size w w' := by
  have HI := Keep.mk hI
  have HJ := Keep.mk hJ
  have HL := Keep.mk hl
  have HA := Keep.mk ha
  have HB := Keep.mk hb
  have HZ := Keep.mk (And.intro h0 h1)
  rw [← hl]
  clear hI hJ hl ha hb h0 h1
  have hmk := run_make_row' (P := Tryd.prog) 63 3 (.int .i64 0) 8 Tryd.underlying63 int_info rfl .i64 .i64 a.length (by omega) (by omega)
  go_enter Tryd.func114, Tryd.ntmps114
  go_wp2_with fail
  clear hmk
  go_loopg [8, 9, 10] a.length (fun gk c i d wr => ∃ (os : List Nat) (z : Int), Keep (TotInv a b 1 gk os z) ∧ gk ≤ a.length ∧ -1 ≤ z ∧ z ≤ 1 ∧ c = .int .i64 z ∧ i = .int .i64 ((gk : Int) - 1) ∧ Keep (Box wr w.heap.size ((List.replicate gk 0 ++ os).map iv)) ∧ Below w.heap.size w wr)
  case atStart =>
    exact ⟨[], 0, ⟨TotInv.start a b 1 HL.out⟩, Nat.le_refl _, by omega, by omega, rfl, by go_num, ⟨by rw [List.append_nil]; exact Box.made _ rfl _⟩, al1 _ _⟩
  case round =>
    obtain ⟨os, z, HT, hk, hz0, hz1, rfl, rfl, HX, hbw⟩ := hrel
    cases gk with
    | zero =>
      have HE := Keep.mk (HT.out.done HZ.out.1 HZ.out.2)
      rw [show (((0 : Nat) : Int) - 1) = -1 by rfl]
      have HX2 := Keep.mk (show Box wr w.heap.size (os.map iv) from HX.out)
      clear HX HT
      go_wp2
      go_ret
      exact ⟨os, rfl, HX2.out, HE.out.1, HE.out.2.1, HE.out.2.2, hbw⟩
    | succ k =>
      rw [show (((k + 1 : Nat) : Int) - 1) = (k : Int) by omega]
      have hlt : k < a.length := hk
      have hltb : k < b.length := by rw [← HL.out]; exact hk
      obtain ⟨g, o, rfl, hg, hc⟩ := (HI.out.below hbw (Nat.le_refl _)).at_ (by omega)
      obtain ⟨g', o', rfl, hg', hc'⟩ := (HJ.out.below hbw (Nat.le_refl _)).at_ (by omega)
      have hck := hc k hlt
      have hck' := hc' k hltb
      have hg2 := Nat.lt_of_lt_of_le hg hbw.size
      have hg2' := Nat.lt_of_lt_of_le hg' hbw.size
      have hcap := HI.out.le
      have hcap' := HJ.out.le
      rw [← HL.out] at hcap'
      have h9 := HA.out _ (List.getElem_mem hlt)
      have h9' := HB.out _ (List.getElem_mem hltb)
      have HS := Keep.mk (fun d c' hd hc he => HT.out.step HL.out hlt hltb d c' hd hc he)
      have lt := HX.out.lt
      have ho := HX.out.cell k (iv 0) (by rw [List.map_append, List.map_replicate, List.getElem?_append_left (by simp)]; simp)
      have hf := HX.out.froz k
      unfold iv at ho
      clear hc hc'
      generalize a[k] = x at *
      generalize b[k] = y at *
      clear hltb
      go_wp2_with fail
      refine wp_region_above (by kernel_rfl) (by kernel_rfl) ?_
      repeat (go_big_quiet_step (fail))
      refine wpQuiet_nil ?_
      rintro _ ⟨u, rfl⟩
      by_cases hbig : 9 < (x : Int) + y + z
      · go_wp2
        go_roundg k
        case rel => exact ⟨((x : Int) + y + z - 10).toNat :: os, 1, ⟨HS.out _ 1 (by omega) (by omega) (by omega)⟩, by omega, by omega, by omega, rfl, by go_num, ⟨tot_box (HX.out.below u.property lt) (iv_eq (by omega))⟩, st1 (up hbw u.property) _ _ _ (Nat.le_refl _)⟩
        case measure => omega
      · by_cases hneg : (x : Int) + y + z < 0
        · go_wp2
          go_roundg k
          case rel => exact ⟨((x : Int) + y + z + 10).toNat :: os, -1, ⟨HS.out _ (-1) (by omega) (by omega) (by omega)⟩, by omega, by omega, by omega, rfl, by go_num, ⟨tot_box (HX.out.below u.property lt) (iv_eq (by omega))⟩, st1 (up hbw u.property) _ _ _ (Nat.le_refl _)⟩
          case measure => omega
        · go_wp2
          go_roundg k
          case rel => exact ⟨((x : Int) + y + z).toNat :: os, 0, ⟨HS.out _ 0 (by omega) (by omega) (by omega)⟩, by omega, by omega, by omega, rfl, by go_num, ⟨tot_box (HX.out.below u.property lt) (iv_eq (by omega))⟩, st1 (up hbw u.property) _ _ _ (Nat.le_refl _)⟩
          case measure => omega
set_option maxRecDepth 100000 in
set_option maxHeartbeats 1000000 in
theorem ref_total_sub (A A2 : Option Addr) (c c2 : Nat) (a b : List Nat) (ha : Digs a) (hb : Digs b) (hl : a.length = b.length) (hm : a.length ≤ 1000000) (h0 : 0 ≤ (val a : Int) + (-1) * val b) (h1 : (val a : Int) + (-1) * val b < (10 ^ a.length : Nat))
    (w : World) (hI : IntsAt w w.heap.size A c a) (hJ : IntsAt w w.heap.size A2 c2 b) :
    Calls Tryd.prog 114 #[.slice A a.length c, .slice A2 b.length c2, .bool true] w fun r w' => ∃ os, r = .returned (.slice (some ⟨w.heap.size, 0, none⟩) a.length a.length) ∧ Box w' w.heap.size (os.map iv) ∧ os.length = a.length ∧ Digs os ∧ (val os : Int) = val a + (-1) * val b ∧ Below w.heap.size w w' := by
  have HI := Keep.mk hI
  have HJ := Keep.mk hJ
  have HL := Keep.mk hl
  have HA := Keep.mk ha
  have HB := Keep.mk hb
  have HZ := Keep.mk (And.intro h0 h1)
  rw [← hl]
  clear hI hJ hl ha hb h0 h1
  have hmk := run_make_row' (P := Tryd.prog) 63 3 (.int .i64 0) 8 Tryd.underlying63 int_info rfl .i64 .i64 a.length (by omega) (by omega)
  go_enter Tryd.func114, Tryd.ntmps114
  go_wp2_with fail
  clear hmk
  go_loopg [8, 9, 10] a.length (fun gk c i d wr => ∃ (os : List Nat) (z : Int), Keep (TotInv a b (-1) gk os z) ∧ gk ≤ a.length ∧ -1 ≤ z ∧ z ≤ 1 ∧ c = .int .i64 z ∧ i = .int .i64 ((gk : Int) - 1) ∧ Keep (Box wr w.heap.size ((List.replicate gk 0 ++ os).map iv)) ∧ Below w.heap.size w wr)
  case atStart =>
    exact ⟨[], 0, ⟨TotInv.start a b (-1) HL.out⟩, Nat.le_refl _, by omega, by omega, rfl, by go_num, ⟨by rw [List.append_nil]; exact Box.made _ rfl _⟩, al1 _ _⟩
  case round =>
    obtain ⟨os, z, HT, hk, hz0, hz1, rfl, rfl, HX, hbw⟩ := hrel
    cases gk with
    | zero =>
      have HE := Keep.mk (HT.out.done HZ.out.1 HZ.out.2)
      rw [show (((0 : Nat) : Int) - 1) = -1 by rfl]
      have HX2 := Keep.mk (show Box wr w.heap.size (os.map iv) from HX.out)
      clear HX HT
      go_wp2
      go_ret
      exact ⟨os, rfl, HX2.out, HE.out.1, HE.out.2.1, HE.out.2.2, hbw⟩
    | succ k =>
      rw [show (((k + 1 : Nat) : Int) - 1) = (k : Int) by omega]
      have hlt : k < a.length := hk
      have hltb : k < b.length := by rw [← HL.out]; exact hk
      obtain ⟨g, o, rfl, hg, hc⟩ := (HI.out.below hbw (Nat.le_refl _)).at_ (by omega)
      obtain ⟨g', o', rfl, hg', hc'⟩ := (HJ.out.below hbw (Nat.le_refl _)).at_ (by omega)
      have hck := hc k hlt
      have hck' := hc' k hltb
      have hg2 := Nat.lt_of_lt_of_le hg hbw.size
      have hg2' := Nat.lt_of_lt_of_le hg' hbw.size
      have hcap := HI.out.le
      have hcap' := HJ.out.le
      rw [← HL.out] at hcap'
      have h9 := HA.out _ (List.getElem_mem hlt)
      have h9' := HB.out _ (List.getElem_mem hltb)
      have HS := Keep.mk (fun d c' hd hc he => HT.out.step HL.out hlt hltb d c' hd hc he)
      have lt := HX.out.lt
      have ho := HX.out.cell k (iv 0) (by rw [List.map_append, List.map_replicate, List.getElem?_append_left (by simp)]; simp)
      have hf := HX.out.froz k
      unfold iv at ho
      clear hc hc'
      generalize a[k] = x at *
      generalize b[k] = y at *
      clear hltb
      go_wp2_with fail
      refine wp_region_above (by kernel_rfl) (by kernel_rfl) ?_
      repeat (go_big_quiet_step (fail))
      refine wpQuiet_nil ?_
      rintro _ ⟨u, rfl⟩
      have hg3 := Nat.lt_of_lt_of_le hg2 u.property.size
      have hg3' := Nat.lt_of_lt_of_le hg2' u.property.size
      have lt3 := Nat.lt_of_lt_of_le lt u.property.size
      go_wp2_with fail
      refine wp_region_above (by kernel_rfl) (by kernel_rfl) ?_
      repeat (go_big_quiet_step (fail))
      refine wpQuiet_nil ?_
      rintro _ ⟨u2, rfl⟩
      by_cases hbig : 9 < (x : Int) - y + z
      · go_wp2
        go_roundg k
        case rel => exact ⟨((x : Int) - y + z - 10).toNat :: os, 1, ⟨HS.out _ 1 (by omega) (by omega) (by omega)⟩, by omega, by omega, by omega, rfl, by go_num, ⟨tot_box ((HX.out.below u.property lt).below u2.property lt3) (iv_eq (by omega))⟩, st1 (up (up hbw u.property) u2.property) _ _ _ (Nat.le_refl _)⟩
        case measure => omega
      · by_cases hneg : (x : Int) - y + z < 0
        · go_wp2
          go_roundg k
          case rel => exact ⟨((x : Int) - y + z + 10).toNat :: os, -1, ⟨HS.out _ (-1) (by omega) (by omega) (by omega)⟩, by omega, by omega, by omega, rfl, by go_num, ⟨tot_box ((HX.out.below u.property lt).below u2.property lt3) (iv_eq (by omega))⟩, st1 (up (up hbw u.property) u2.property) _ _ _ (Nat.le_refl _)⟩
          case measure => omega
        · go_wp2
          go_roundg k
          case rel => exact ⟨((x : Int) - y + z).toNat :: os, 0, ⟨HS.out _ 0 (by omega) (by omega) (by omega)⟩, by omega, by omega, by omega, rfl, by go_num, ⟨tot_box ((HX.out.below u.property lt).below u2.property lt3) (iv_eq (by omega))⟩, st1 (up (up hbw u.property) u2.property) _ _ _ (Nat.le_refl _)⟩
          case measure => omega
end Go.Proofs.YtljemfajjeoecaaDoor
namespace Go.Proofs.YtljemfajjeoecaaDoor
open Go Go.RowKit Go.Proofs Th

/-- the exponent of both -/
def pairE (a b : List Nat) (ea eb : Int) : Int := if b = [] then ea else if a = [] then eb else low ea eb
/-- what pair makes of two rows of digits -/
structure PairOut (a b : List Nat) (ea eb : Int) (x y : List Nat) : Prop where
  len : x.length = y.length
  dx : Digs x
  dy : Digs y
  vx : val x = val a * 10 ^ (ea - pairE a b ea eb).toNat
  vy : val y = val b * 10 ^ (eb - pairE a b ea eb).toNat
  small : val x + val y < 10 ^ x.length
  few : x.length ≤ 100000

theorem pair_out (a b : List Nat) (ea eb fa fb E : Int) (ka kb M : Nat) (hka : ka = (fa - E).toNat) (hkb : kb = (fb - E).toNat) (ha : Digs a) (hb : Digs b) (hE : E = pairE a b ea eb) (h1 : a ≠ [] → fa = ea) (h2 : b ≠ [] → fb = eb)
    (hM1 : 1 + (a.length : Int) + (fa - E).toNat ≤ M) (hM2 : 1 + (b.length : Int) + (fb - E).toNat ≤ M) (hM3 : M ≤ 100000) : PairOut a b ea eb (wideL a ka M) (wideL b kb M) := by
  subst hka hkb
  have l1 := length_wideL a (fa - E).toNat M (by omega)
  have l2 := length_wideL b (fb - E).toNat M (by omega)
  have v1 := val_wideL a (fa - E).toNat M
  have v2 := val_wideL b (fb - E).toNat M
  have b1 := val_lt a ha
  have b2 := val_lt b hb
  have s1 : val a * 10 ^ (fa - E).toNat < 10 ^ (M - 1) := by
    have h3 : (val a + 1) * 10 ^ (fa - E).toNat ≤ 10 ^ a.length * 10 ^ (fa - E).toNat := Nat.mul_le_mul_right _ b1
    have h4 : (10 : Nat) ^ (a.length + (fa - E).toNat) ≤ 10 ^ (M - 1) := Nat.pow_le_pow_right (by omega) (by omega)
    have h5 : 0 < 10 ^ (fa - E).toNat := Nat.pow_pos (by omega)
    rw [Nat.add_mul, ← Nat.pow_add] at h3
    omega
  have s2 : val b * 10 ^ (fb - E).toNat < 10 ^ (M - 1) := by
    have h3 : (val b + 1) * 10 ^ (fb - E).toNat ≤ 10 ^ b.length * 10 ^ (fb - E).toNat := Nat.mul_le_mul_right _ b2
    have h4 : (10 : Nat) ^ (b.length + (fb - E).toNat) ≤ 10 ^ (M - 1) := Nat.pow_le_pow_right (by omega) (by omega)
    have h5 : 0 < 10 ^ (fb - E).toNat := Nat.pow_pos (by omega)
    rw [Nat.add_mul, ← Nat.pow_add] at h3
    omega
  have hp : (10 : Nat) ^ M = 10 ^ (M - 1) * 10 := by rw [← Nat.pow_succ]; congr 1; omega
  refine ⟨by rw [l1, l2], digs_wideL ha _ _, digs_wideL hb _ _, ?_, ?_, by rw [l1, v1, v2, hp]; omega, by omega⟩
  · rw [v1, ← hE]
    by_cases h : a = []
    · subst h; simp
    · rw [h1 h]
  · rw [v2, ← hE]
    by_cases h : b = []
    · subst h; simp
    · rw [h2 h]

theorem below_drew (W : World) : Below W.heap.size W W.drew := ⟨rfl, rfl, rfl, Nat.le_refl _, fun _ _ => rfl⟩
theorem pair_read {w W0 wc : World} {A : Option Addr} {c : Nat} {a : List Nat} {R : Prop} (hI : IntsAt w w.heap.size A c a) (hb : Below w.heap.size w W0) (hS : Below W0.heap.size W0 wc ∧ R) : IntsAt wc wc.heap.size A c a :=
  (hI.below (up hb hS.1) (Nat.le_refl _)).more (Nat.le_trans hb.size hS.1.size)
theorem pair_keep {W0 w1 w2 : World} {n : Nat} {v0 v1 v2 u0 u1 u2 : Value} (hn : n + 1 < W0.heap.size)
    (hS : Below W0.heap.size W0 w1 ∧ w1.cell? ⟨n, 0, none⟩ = some v0 ∧ w1.cell? ⟨n, 1, none⟩ = some v1 ∧ w1.cell? ⟨n, 2, none⟩ = some v2 ∧ w1.cell? ⟨n + 1, 0, none⟩ = some u0 ∧ w1.cell? ⟨n + 1, 1, none⟩ = some u1 ∧ w1.cell? ⟨n + 1, 2, none⟩ = some u2) (hb : Below w1.heap.size w1 w2) :
    Below W0.heap.size W0 w2 ∧ w2.cell? ⟨n, 0, none⟩ = some v0 ∧ w2.cell? ⟨n, 1, none⟩ = some v1 ∧ w2.cell? ⟨n, 2, none⟩ = some v2 ∧ w2.cell? ⟨n + 1, 0, none⟩ = some u0 ∧ w2.cell? ⟨n + 1, 1, none⟩ = some u1 ∧ w2.cell? ⟨n + 1, 2, none⟩ = some u2 := by
  obtain ⟨h, h0, h1, h2, h3, h4, h5⟩ := hS
  have e : ∀ (b o : Nat), b < W0.heap.size → w2.cell? ⟨b, o, none⟩ = w1.cell? ⟨b, o, none⟩ := fun b o hlt => hb.cell (p := ⟨b, o, none⟩) (Nat.lt_of_lt_of_le hlt h.size)
  exact ⟨up h hb, (e _ _ (by omega)).trans h0, (e _ _ (by omega)).trans h1, (e _ _ (by omega)).trans h2, (e _ _ hn).trans h3, (e _ _ hn).trans h4, (e _ _ hn).trans h5⟩
theorem wide_at (neg : Bool) (A : Option Addr) (c : Nat) (ds : List Nat) (n : Nat) (xe e : Int) (many : Int) (hn : n = ds.length) (hl : n ≤ 10000) (he : -10000 ≤ e ∧ xe ≤ 10000) (h0 : 0 ≤ many) (hm : many ≤ 100000) (w : World) (hI : IntsAt w w.heap.size A c ds) :
    Calls Tryd.prog 145 #[.agg #[.bool neg, .slice A n c, .int .i64 xe], .int .i64 e, .int .i64 many] w fun r w' =>
      ∃ A' c', r = .returned (.slice A' (wideL ds (xe - e).toNat many.toNat).length c') ∧ IntsAt w' w'.heap.size A' c' (wideL ds (xe - e).toNat many.toNat) ∧ Below w.heap.size w w' := by
  obtain ⟨m, rfl⟩ := Int.eq_ofNat_of_zero_le h0
  subst hn
  exact ref_wide neg A c ds xe e m hl he (by omega) w hI

/-- pair, case by case -/
theorem pair_cases : True := trivial
set_option maxRecDepth 100000 in
set_option maxHeartbeats 4000000 in
theorem pair_both (na nb : Bool) (A B : Option Addr) (c d : Nat) (a b : List Nat) (n m : Nat) (ea eb : Int) (hn : n = a.length) (hm : m = b.length) (ha : Digs a) (hb : Digs b) (hla : n ≤ 1000) (hlb : m ≤ 1000) (h0 : -1000 ≤ ea) (h1 : ea ≤ 1000) (h2 : -1000 ≤ eb) (h3 : eb ≤ 1000)
    (hna : ((n : Int) == 0) = false) (hmb : ((m : Int) == 0) = false)
    (w : World) (hI : IntsAt w w.heap.size A c a) (hJ : IntsAt w w.heap.size B d b) :
    Calls Tryd.prog 113 #[.agg #[.bool na, .slice A n c, .int .i64 ea], .agg #[.bool nb, .slice B m d, .int .i64 eb]] w fun r w' =>
      ∃ A' B' c' d' x y, r = .returned (.tuple #[.slice A' x.length c', .slice B' y.length d', .int .i64 (pairE a b ea eb)]) ∧ PairOut a b ea eb x y ∧ IntsAt w' w'.heap.size A' c' x ∧ IntsAt w' w'.heap.size B' d' y ∧ Below w.heap.size w w' := by
  have HI := Keep.mk hI
  have HJ := Keep.mk hJ
  have HA := Keep.mk ha
  have HB := Keep.mk hb
  have HN := Keep.mk hn
  have HM := Keep.mk hm
  clear hI hJ ha hb hn hm
  have HE := Keep.mk (show low ea eb = pairE a b ea eb by
    unfold pairE
    rw [if_neg (by intro h; subst h; rw [HM.out] at hmb; cases hmb), if_neg (by intro h; subst h; rw [HN.out] at hna; cases hna)])
  have hlo := low_le ea eb
  have hlo2 : low ea eb = ea ∨ low ea eb = eb := by unfold low; split <;> simp
  go_enter Tryd.func113, Tryd.ntmps113
  go_wp2_with fail
  refine (ref_least _ _ _).mono ?_
  rintro r W ⟨rfl, hb1⟩
  generalize low ea eb = E at *
  have HX := ((Box.new (w := w) [.bool na, .slice A n c, .int .i64 ea] 86 rfl).alloc (.cells #[.bool nb, .slice B m d, .int .i64 eb] 86)).below hb1 (by simp only [World.size_alloc]; omega)
  have HY := (Box.new (w := w.alloc (.cells #[.bool na, .slice A n c, .int .i64 ea] 86)) (n := w.heap.size + 1) [.bool nb, .slice B m d, .int .i64 eb] 86 (by simp)).below hb1 (by simp only [World.size_alloc]; omega)
  have hbw := up (al2 w _ _) hb1
  clear hb1
  have x1 := HX.cell 1 _ rfl
  have x2 := HX.cell 2 _ rfl
  have y1 := HY.cell 1 _ rfl
  have y2 := HY.cell 2 _ rfl
  have fx2 := HX.froz 2
  have fy2 := HY.froz 2
  have ltx := HX.lt
  have lty := HY.lt
  go_wp2_with fail
  all_goals
    refine wp_world (fun W0 => Box W0 w.heap.size [.bool na, .slice A n c, .int .i64 ea] ∧ Box W0 (w.heap.size + 1) [.bool nb, .slice B m d, .int .i64 eb] ∧ Below w.heap.size w W0) ⟨HX, HY, hbw⟩ ?_
    clear HX HY hbw x1 x2 y1 y2 fx2 fy2 ltx lty
    rintro W0 ⟨HX, HY, hbw⟩
    have x0 := HX.cell 0 _ rfl
    have x1 := HX.cell 1 _ rfl
    have x2 := HX.cell 2 _ rfl
    have y0 := HY.cell 0 _ rfl
    have y1 := HY.cell 1 _ rfl
    have y2 := HY.cell 2 _ rfl
    have lty := HY.lt
    go_region_held3 (fun w' => Below W0.heap.size W0 w' ∧ w'.cell? ⟨w.heap.size, 0, none⟩ = some (.bool na) ∧ w'.cell? ⟨w.heap.size, 1, none⟩ = some (.slice A n c) ∧ w'.cell? ⟨w.heap.size, 2, none⟩ = some (.int .i64 ea) ∧ w'.cell? ⟨w.heap.size + 1, 0, none⟩ = some (.bool nb) ∧ w'.cell? ⟨w.heap.size + 1, 1, none⟩ = some (.slice B m d) ∧ w'.cell? ⟨w.heap.size + 1, 2, none⟩ = some (.int .i64 eb))
      ((first | exact ⟨below_drew _, x0, x1, x2, y0, y1, y2⟩ | exact pair_keep lty (by assumption) (by assumption)))
      ((first
        | (go_at_call_of 145 (Value.agg #[.bool na, .slice A n c, .int .i64 ea]); refine (wide_at na A c a n ea E _ HN.out (by omega) (by omega) (by omega) (by omega) _ (pair_read HI.out hbw (by assumption))).mono ?_; rintro r w2 ⟨A1, c1, rfl, hI1, hb1⟩)
        | (go_at_call_of 145 (Value.agg #[.bool nb, .slice B m d, .int .i64 eb]); refine (wide_at nb B d b m eb E _ HM.out (by omega) (by omega) (by omega) (by omega) _ (pair_read HJ.out hbw (by assumption))).mono ?_; rintro r w3 ⟨A2, c2, rfl, hI2, hb2⟩)))
    all_goals
      go_wp2
      go_ret3
      (try simp only [Int.sub_self, Int.toNat_zero] at hI1 hI2)
      exact ⟨A1, A2, c1, c2, _, _, (by rw [← HE.out]; rfl), pair_out a b ea eb ea eb E _ _ _ (by simp) (by simp) HA.out HB.out HE.out (fun _ => rfl) (fun _ => rfl) (by have := HN.out; omega) (by have := HM.out; omega) (by omega), (hI1.below hb2 (Nat.le_refl _)).more hb2.size, hI2, up hbw (And.left (by assumption))⟩

set_option maxRecDepth 100000 in
set_option maxHeartbeats 4000000 in
theorem pair_none (na nb : Bool) (A B : Option Addr) (c d : Nat) (a b : List Nat) (n m : Nat) (ea eb : Int) (hn : n = a.length) (hm : m = b.length) (ha : Digs a) (hb : Digs b) (hla : n ≤ 1000) (hlb : m ≤ 1000) (h0 : -1000 ≤ ea) (h1 : ea ≤ 1000) (_h2 : -1000 ≤ eb) (_h3 : eb ≤ 1000)
    (hna : ((n : Int) == 0) = true) (hmb : ((m : Int) == 0) = true)
    (w : World) (hI : IntsAt w w.heap.size A c a) (hJ : IntsAt w w.heap.size B d b) :
    Calls Tryd.prog 113 #[.agg #[.bool na, .slice A n c, .int .i64 ea], .agg #[.bool nb, .slice B m d, .int .i64 eb]] w fun r w' =>
      ∃ A' B' c' d' x y, r = .returned (.tuple #[.slice A' x.length c', .slice B' y.length d', .int .i64 (pairE a b ea eb)]) ∧ PairOut a b ea eb x y ∧ IntsAt w' w'.heap.size A' c' x ∧ IntsAt w' w'.heap.size B' d' y ∧ Below w.heap.size w w' := by
  have HI := Keep.mk hI
  have HJ := Keep.mk hJ
  have HA := Keep.mk ha
  have HB := Keep.mk hb
  have HN := Keep.mk hn
  have HM := Keep.mk hm
  clear hI hJ ha hb hn hm
  have hn0 : n < 1 := by simp at hna; omega
  have hm0 : m < 1 := by simp at hmb; omega
  have HA0 := Keep.mk (show a = [] from List.eq_nil_of_length_eq_zero (by rw [← HN.out]; omega))
  have HB0 := Keep.mk (show b = [] from List.eq_nil_of_length_eq_zero (by rw [← HM.out]; omega))
  have HE := Keep.mk (show ea = pairE a b ea eb by unfold pairE; rw [if_pos HB0.out])
  go_enter Tryd.func113, Tryd.ntmps113
  go_wp2_with fail
  refine (ref_least _ _ _).mono ?_
  rintro r W ⟨rfl, hb1⟩

  have HX := ((Box.new (w := w) [.bool na, .slice A n c, .int .i64 ea] 86 rfl).alloc (.cells #[.bool nb, .slice B m d, .int .i64 eb] 86)).below hb1 (by simp only [World.size_alloc]; omega)
  have HY := (Box.new (w := w.alloc (.cells #[.bool na, .slice A n c, .int .i64 ea] 86)) (n := w.heap.size + 1) [.bool nb, .slice B m d, .int .i64 eb] 86 (by simp)).below hb1 (by simp only [World.size_alloc]; omega)
  have hbw := up (al2 w _ _) hb1
  clear hb1
  have x1 := HX.cell 1 _ rfl
  have x2 := HX.cell 2 _ rfl
  have y1 := HY.cell 1 _ rfl
  have y2 := HY.cell 2 _ rfl
  have fx2 := HX.froz 2
  have fy2 := HY.froz 2
  have ltx := HX.lt
  have lty := HY.lt
  go_wp2_with fail
  all_goals
    refine wp_world (fun W0 => Box W0 w.heap.size [.bool na, .slice A n c, .int .i64 ea] ∧ Box W0 (w.heap.size + 1) [.bool nb, .slice B m d, .int .i64 ea] ∧ Below w.heap.size w W0) ⟨(HX.set (by simp) _).other (by omega) _, (HY.other (by omega) _).set (by simp) _, st1 (st1 hbw _ _ _ (by omega)) _ _ _ (by omega)⟩ ?_
    clear HX HY hbw x1 x2 y1 y2 fx2 fy2 ltx lty
    rintro W0 ⟨HX, HY, hbw⟩
    have x0 := HX.cell 0 _ rfl
    have x1 := HX.cell 1 _ rfl
    have x2 := HX.cell 2 _ rfl
    have y0 := HY.cell 0 _ rfl
    have y1 := HY.cell 1 _ rfl
    have y2 := HY.cell 2 _ rfl
    have lty := HY.lt
    go_region_held3 (fun w' => Below W0.heap.size W0 w' ∧ w'.cell? ⟨w.heap.size, 0, none⟩ = some (.bool na) ∧ w'.cell? ⟨w.heap.size, 1, none⟩ = some (.slice A n c) ∧ w'.cell? ⟨w.heap.size, 2, none⟩ = some (.int .i64 ea) ∧ w'.cell? ⟨w.heap.size + 1, 0, none⟩ = some (.bool nb) ∧ w'.cell? ⟨w.heap.size + 1, 1, none⟩ = some (.slice B m d) ∧ w'.cell? ⟨w.heap.size + 1, 2, none⟩ = some (.int .i64 ea))
      ((first | exact ⟨below_drew _, x0, x1, x2, y0, y1, y2⟩ | exact pair_keep lty (by assumption) (by assumption)))
      ((first
        | (go_at_call_of 145 (Value.agg #[.bool na, .slice A n c, .int .i64 ea]); refine (wide_at na A c a n ea ea _ HN.out (by omega) (by omega) (by omega) (by omega) _ (pair_read HI.out hbw (by assumption))).mono ?_; rintro r w2 ⟨A1, c1, rfl, hI1, hb1⟩)
        | (go_at_call_of 145 (Value.agg #[.bool nb, .slice B m d, .int .i64 ea]); refine (wide_at nb B d b m ea ea _ HM.out (by omega) (by omega) (by omega) (by omega) _ (pair_read HJ.out hbw (by assumption))).mono ?_; rintro r w3 ⟨A2, c2, rfl, hI2, hb2⟩)))
    all_goals
      go_wp2
      go_ret3
      (try simp only [Int.sub_self, Int.toNat_zero] at hI1 hI2)
      exact ⟨A1, A2, c1, c2, _, _, (by rw [← HE.out]; rfl), pair_out a b ea eb ea ea ea _ _ _ (by simp) (by simp) HA.out HB.out HE.out (fun h => absurd HA0.out h) (fun h => absurd HB0.out h) (by have := HN.out; omega) (by have := HM.out; omega) (by omega), (hI1.below hb2 (Nat.le_refl _)).more hb2.size, hI2, up hbw (And.left (by assumption))⟩

set_option maxRecDepth 100000 in
set_option maxHeartbeats 4000000 in
theorem pair_left (na nb : Bool) (A B : Option Addr) (c d : Nat) (a b : List Nat) (n m : Nat) (ea eb : Int) (hn : n = a.length) (hm : m = b.length) (ha : Digs a) (hb : Digs b) (hla : n ≤ 1000) (hlb : m ≤ 1000) (_h0 : -1000 ≤ ea) (_h1 : ea ≤ 1000) (h2 : -1000 ≤ eb) (h3 : eb ≤ 1000)
    (hna : ((n : Int) == 0) = true) (hmb : ((m : Int) == 0) = false)
    (w : World) (hI : IntsAt w w.heap.size A c a) (hJ : IntsAt w w.heap.size B d b) :
    Calls Tryd.prog 113 #[.agg #[.bool na, .slice A n c, .int .i64 ea], .agg #[.bool nb, .slice B m d, .int .i64 eb]] w fun r w' =>
      ∃ A' B' c' d' x y, r = .returned (.tuple #[.slice A' x.length c', .slice B' y.length d', .int .i64 (pairE a b ea eb)]) ∧ PairOut a b ea eb x y ∧ IntsAt w' w'.heap.size A' c' x ∧ IntsAt w' w'.heap.size B' d' y ∧ Below w.heap.size w w' := by
  have HI := Keep.mk hI
  have HJ := Keep.mk hJ
  have HA := Keep.mk ha
  have HB := Keep.mk hb
  have HN := Keep.mk hn
  have HM := Keep.mk hm
  clear hI hJ ha hb hn hm
  have hn0 : n < 1 := by simp at hna; omega
  have hm0 : 0 < m := by simp at hmb; omega
  have HA0 := Keep.mk (show a = [] from List.eq_nil_of_length_eq_zero (by rw [← HN.out]; omega))
  have HE := Keep.mk (show eb = pairE a b ea eb by unfold pairE; rw [if_neg (by intro h; have := HM.out; rw [h] at this; simp at this; omega), if_pos HA0.out])
  go_enter Tryd.func113, Tryd.ntmps113
  go_wp2_with fail
  refine (ref_least _ _ _).mono ?_
  rintro r W ⟨rfl, hb1⟩

  have HX := ((Box.new (w := w) [.bool na, .slice A n c, .int .i64 ea] 86 rfl).alloc (.cells #[.bool nb, .slice B m d, .int .i64 eb] 86)).below hb1 (by simp only [World.size_alloc]; omega)
  have HY := (Box.new (w := w.alloc (.cells #[.bool na, .slice A n c, .int .i64 ea] 86)) (n := w.heap.size + 1) [.bool nb, .slice B m d, .int .i64 eb] 86 (by simp)).below hb1 (by simp only [World.size_alloc]; omega)
  have hbw := up (al2 w _ _) hb1
  clear hb1
  have x1 := HX.cell 1 _ rfl
  have x2 := HX.cell 2 _ rfl
  have y1 := HY.cell 1 _ rfl
  have y2 := HY.cell 2 _ rfl
  have fx2 := HX.froz 2
  have fy2 := HY.froz 2
  have ltx := HX.lt
  have lty := HY.lt
  go_wp2_with fail
  all_goals
    refine wp_world (fun W0 => Box W0 w.heap.size [.bool na, .slice A n c, .int .i64 eb] ∧ Box W0 (w.heap.size + 1) [.bool nb, .slice B m d, .int .i64 eb] ∧ Below w.heap.size w W0) ⟨HX.set (by simp) _, HY.other (by omega) _, st1 hbw _ _ _ (by omega)⟩ ?_
    clear HX HY hbw x1 x2 y1 y2 fx2 fy2 ltx lty
    rintro W0 ⟨HX, HY, hbw⟩
    have x0 := HX.cell 0 _ rfl
    have x1 := HX.cell 1 _ rfl
    have x2 := HX.cell 2 _ rfl
    have y0 := HY.cell 0 _ rfl
    have y1 := HY.cell 1 _ rfl
    have y2 := HY.cell 2 _ rfl
    have lty := HY.lt
    go_region_held3 (fun w' => Below W0.heap.size W0 w' ∧ w'.cell? ⟨w.heap.size, 0, none⟩ = some (.bool na) ∧ w'.cell? ⟨w.heap.size, 1, none⟩ = some (.slice A n c) ∧ w'.cell? ⟨w.heap.size, 2, none⟩ = some (.int .i64 eb) ∧ w'.cell? ⟨w.heap.size + 1, 0, none⟩ = some (.bool nb) ∧ w'.cell? ⟨w.heap.size + 1, 1, none⟩ = some (.slice B m d) ∧ w'.cell? ⟨w.heap.size + 1, 2, none⟩ = some (.int .i64 eb))
      ((first | exact ⟨below_drew _, x0, x1, x2, y0, y1, y2⟩ | exact pair_keep lty (by assumption) (by assumption)))
      ((first
        | (go_at_call_of 145 (Value.agg #[.bool na, .slice A n c, .int .i64 eb]); refine (wide_at na A c a n eb eb _ HN.out (by omega) (by omega) (by omega) (by omega) _ (pair_read HI.out hbw (by assumption))).mono ?_; rintro r w2 ⟨A1, c1, rfl, hI1, hb1⟩)
        | (go_at_call_of 145 (Value.agg #[.bool nb, .slice B m d, .int .i64 eb]); refine (wide_at nb B d b m eb eb _ HM.out (by omega) (by omega) (by omega) (by omega) _ (pair_read HJ.out hbw (by assumption))).mono ?_; rintro r w3 ⟨A2, c2, rfl, hI2, hb2⟩)))
    all_goals
      go_wp2
      go_ret3
      (try simp only [Int.sub_self, Int.toNat_zero] at hI1 hI2)
      exact ⟨A1, A2, c1, c2, _, _, (by rw [← HE.out]; rfl), pair_out a b ea eb eb eb eb _ _ _ (by simp) (by simp) HA.out HB.out HE.out (fun h => absurd HA0.out h) (fun _ => rfl) (by have := HN.out; omega) (by have := HM.out; omega) (by omega), (hI1.below hb2 (Nat.le_refl _)).more hb2.size, hI2, up hbw (And.left (by assumption))⟩

set_option maxRecDepth 100000 in
set_option maxHeartbeats 4000000 in
theorem pair_right (na nb : Bool) (A B : Option Addr) (c d : Nat) (a b : List Nat) (n m : Nat) (ea eb : Int) (hn : n = a.length) (hm : m = b.length) (ha : Digs a) (hb : Digs b) (hla : n ≤ 1000) (hlb : m ≤ 1000) (h0 : -1000 ≤ ea) (h1 : ea ≤ 1000) (_h2 : -1000 ≤ eb) (_h3 : eb ≤ 1000)
    (hna : ((n : Int) == 0) = false) (hmb : ((m : Int) == 0) = true)
    (w : World) (hI : IntsAt w w.heap.size A c a) (hJ : IntsAt w w.heap.size B d b) :
    Calls Tryd.prog 113 #[.agg #[.bool na, .slice A n c, .int .i64 ea], .agg #[.bool nb, .slice B m d, .int .i64 eb]] w fun r w' =>
      ∃ A' B' c' d' x y, r = .returned (.tuple #[.slice A' x.length c', .slice B' y.length d', .int .i64 (pairE a b ea eb)]) ∧ PairOut a b ea eb x y ∧ IntsAt w' w'.heap.size A' c' x ∧ IntsAt w' w'.heap.size B' d' y ∧ Below w.heap.size w w' := by
  have HI := Keep.mk hI
  have HJ := Keep.mk hJ
  have HA := Keep.mk ha
  have HB := Keep.mk hb
  have HN := Keep.mk hn
  have HM := Keep.mk hm
  clear hI hJ ha hb hn hm
  have hm0 : m < 1 := by simp at hmb; omega
  have hn0 : 0 < n := by simp at hna; omega
  have HB0 := Keep.mk (show b = [] from List.eq_nil_of_length_eq_zero (by rw [← HM.out]; omega))
  have HE := Keep.mk (show ea = pairE a b ea eb by unfold pairE; rw [if_pos HB0.out])
  go_enter Tryd.func113, Tryd.ntmps113
  go_wp2_with fail
  refine (ref_least _ _ _).mono ?_
  rintro r W ⟨rfl, hb1⟩

  have HX := ((Box.new (w := w) [.bool na, .slice A n c, .int .i64 ea] 86 rfl).alloc (.cells #[.bool nb, .slice B m d, .int .i64 eb] 86)).below hb1 (by simp only [World.size_alloc]; omega)
  have HY := (Box.new (w := w.alloc (.cells #[.bool na, .slice A n c, .int .i64 ea] 86)) (n := w.heap.size + 1) [.bool nb, .slice B m d, .int .i64 eb] 86 (by simp)).below hb1 (by simp only [World.size_alloc]; omega)
  have hbw := up (al2 w _ _) hb1
  clear hb1
  have x1 := HX.cell 1 _ rfl
  have x2 := HX.cell 2 _ rfl
  have y1 := HY.cell 1 _ rfl
  have y2 := HY.cell 2 _ rfl
  have fx2 := HX.froz 2
  have fy2 := HY.froz 2
  have ltx := HX.lt
  have lty := HY.lt
  go_wp2_with fail
  all_goals
    refine wp_world (fun W0 => Box W0 w.heap.size [.bool na, .slice A n c, .int .i64 ea] ∧ Box W0 (w.heap.size + 1) [.bool nb, .slice B m d, .int .i64 ea] ∧ Below w.heap.size w W0) ⟨HX.other (by omega) _, HY.set (by simp) _, st1 hbw _ _ _ (by omega)⟩ ?_
    clear HX HY hbw x1 x2 y1 y2 fx2 fy2 ltx lty
    rintro W0 ⟨HX, HY, hbw⟩
    have x0 := HX.cell 0 _ rfl
    have x1 := HX.cell 1 _ rfl
    have x2 := HX.cell 2 _ rfl
    have y0 := HY.cell 0 _ rfl
    have y1 := HY.cell 1 _ rfl
    have y2 := HY.cell 2 _ rfl
    have lty := HY.lt
    go_region_held3 (fun w' => Below W0.heap.size W0 w' ∧ w'.cell? ⟨w.heap.size, 0, none⟩ = some (.bool na) ∧ w'.cell? ⟨w.heap.size, 1, none⟩ = some (.slice A n c) ∧ w'.cell? ⟨w.heap.size, 2, none⟩ = some (.int .i64 ea) ∧ w'.cell? ⟨w.heap.size + 1, 0, none⟩ = some (.bool nb) ∧ w'.cell? ⟨w.heap.size + 1, 1, none⟩ = some (.slice B m d) ∧ w'.cell? ⟨w.heap.size + 1, 2, none⟩ = some (.int .i64 ea))
      ((first | exact ⟨below_drew _, x0, x1, x2, y0, y1, y2⟩ | exact pair_keep lty (by assumption) (by assumption)))
      ((first
        | (go_at_call_of 145 (Value.agg #[.bool na, .slice A n c, .int .i64 ea]); refine (wide_at na A c a n ea ea _ HN.out (by omega) (by omega) (by omega) (by omega) _ (pair_read HI.out hbw (by assumption))).mono ?_; rintro r w2 ⟨A1, c1, rfl, hI1, hb1⟩)
        | (go_at_call_of 145 (Value.agg #[.bool nb, .slice B m d, .int .i64 ea]); refine (wide_at nb B d b m ea ea _ HM.out (by omega) (by omega) (by omega) (by omega) _ (pair_read HJ.out hbw (by assumption))).mono ?_; rintro r w3 ⟨A2, c2, rfl, hI2, hb2⟩)))
    all_goals
      go_wp2
      go_ret3
      (try simp only [Int.sub_self, Int.toNat_zero] at hI1 hI2)
      exact ⟨A1, A2, c1, c2, _, _, (by rw [← HE.out]; rfl), pair_out a b ea eb ea ea ea _ _ _ (by simp) (by simp) HA.out HB.out HE.out (fun _ => rfl) (fun h => absurd HB0.out h) (by have := HN.out; omega) (by have := HM.out; omega) (by omega), (hI1.below hb2 (Nat.le_refl _)).more hb2.size, hI2, up hbw (And.left (by assumption))⟩

theorem ref_pair (na nb : Bool) (A B : Option Addr) (c d : Nat) (a b : List Nat) (n m : Nat) (ea eb : Int) (hn : n = a.length) (hm : m = b.length) (ha : Digs a) (hb : Digs b) (hla : n ≤ 1000) (hlb : m ≤ 1000) (h0 : -1000 ≤ ea) (h1 : ea ≤ 1000) (h2 : -1000 ≤ eb) (h3 : eb ≤ 1000)
    (w : World) (hI : IntsAt w w.heap.size A c a) (hJ : IntsAt w w.heap.size B d b) :
    Calls Tryd.prog 113 #[.agg #[.bool na, .slice A n c, .int .i64 ea], .agg #[.bool nb, .slice B m d, .int .i64 eb]] w fun r w' =>
      ∃ A' B' c' d' x y, r = .returned (.tuple #[.slice A' x.length c', .slice B' y.length d', .int .i64 (pairE a b ea eb)]) ∧ PairOut a b ea eb x y ∧ IntsAt w' w'.heap.size A' c' x ∧ IntsAt w' w'.heap.size B' d' y ∧ Below w.heap.size w w' := by
  cases hna : ((n : Int) == 0) <;> cases hmb : ((m : Int) == 0)
  · exact pair_both na nb A B c d a b n m ea eb hn hm ha hb hla hlb h0 h1 h2 h3 hna hmb w hI hJ
  · exact pair_right na nb A B c d a b n m ea eb hn hm ha hb hla hlb h0 h1 h2 h3 hna hmb w hI hJ
  · exact pair_left na nb A B c d a b n m ea eb hn hm ha hb hla hlb h0 h1 h2 h3 hna hmb w hI hJ
  · exact pair_none na nb A B c d a b n m ea eb hn hm ha hb hla hlb h0 h1 h2 h3 hna hmb w hI hJ
end Go.Proofs.YtljemfajjeoecaaDoor
