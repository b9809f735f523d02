/- The references' total: the sum, or the difference, of two rows of digits as long as one another. Conditions: the digits are no more than a million. -/
import Derived.Test.YtljemfajjeoecaaDoorRefLong
import Derived.Deep.OwnRows
import Derived.Laws.OwnMore
namespace Go.Proofs.YtljemfajjeoecaaDoor
open Go Go.RowKit Go.Proofs Th
attribute [local go_sem] Above.cell Above.frozen

theorem Box.made {w : World} {n : Nat} (t : TypeId) (h : w.heap.size = n) (k : Nat) : Box (w.alloc (.cells (madeCells #[.int .i64 0] k) t)) n ((List.replicate k 0).map iv) := by
  have e : madeCells #[.int .i64 0] k = ((List.replicate k 0).map iv).toArray := by
    apply Array.ext'
    rw [toList_madeCells_one]
    simp [iv]
  rw [e]
  exact Box.new _ t h
theorem Box.ints {w : World} {g : Nat} {ds : List Nat} (h : Box w g (ds.map iv)) (hl : ds.length ≤ 1000000) : IntsAt w w.heap.size (some ⟨g, 0, none⟩) ds.length ds :=
  ⟨Nat.le_refl _, by simp [maxLen]; omega, fun _ => ⟨g, 0, rfl, h.lt, fun j hj => by have := h.cell j (iv ds[j]) (by simp [hj]); simpa [iv] using this⟩⟩
theorem tot_set (k d : Nat) (os : List Nat) (v : Value) (hv : v = iv d) : ((List.replicate (k + 1) 0 ++ os).map iv).set k v = (List.replicate k 0 ++ d :: os).map iv := by
  subst hv
  rw [← List.map_set, List.replicate_succ', List.append_assoc, List.set_append_right _ _ (by simp)]
  simp

theorem tot_box {W : World} {n k d : Nat} {os : List Nat} {v : Value} (h : Box W n ((List.replicate (k + 1) 0 ++ os).map iv)) (hv : v = iv d) : Box (W.setCell ⟨n, k, none⟩ v) n ((List.replicate k 0 ++ d :: os).map iv) := by
  rw [← tot_set k d os v hv]
  exact h.set (by simp; omega) _
theorem iv_eq {x : Int} {d : Nat} (h : x = d) : Value.int .i64 x = iv d := by unfold iv; rw [h]

set_option maxRecDepth 100000 in
set_option maxHeartbeats 1000000 in
theorem ref_total_add (A A2 : Option Addr) (c c2 : Nat) (a b : List Nat) (ha : Digs a) (hb : Digs b) (hl : a.length = b.length) (hm : a.length ≤ 1000000) (h0 : 0 ≤ (val a : Int) + 1 * val b) (h1 : (val a : Int) + 1 * val b < (10 ^ a.length : Nat))
    (w : World) (hI : IntsAt w w.heap.size A c a) (hJ : IntsAt w w.heap.size A2 c2 b) :
    Calls Tryd.prog 114 #[.slice A a.length c, .slice A2 b.length c2, .bool false] w fun r w' => ∃ os, r = .returned (.slice (some ⟨w.heap.size, 0, none⟩) a.length a.length) ∧ Box w' w.heap.size (os.map iv) ∧ os.length = a.length ∧ Digs os ∧ (val os : Int) = val a + 1 * val b ∧ Below w.heap.size w w' := by
  have HI := Keep.mk hI
  have HJ := Keep.mk hJ
  have HL := Keep.mk hl
  have HA := Keep.mk ha
  have HB := Keep.mk hb
  have HZ := Keep.mk (And.intro h0 h1)
  rw [← hl]
  clear hI hJ hl ha hb h0 h1
  have hmk := run_make_row' (P := Tryd.prog) 63 3 (.int .i64 0) 8 Tryd.underlying63 int_info rfl .i64 .i64 a.length (by omega) (by omega)
  go_enter Tryd.func114, Tryd.ntmps114
  go_wp2_with fail
  clear hmk
  go_loopg [8, 9, 10] a.length (fun gk c i d wr => ∃ (os : List Nat) (z : Int), Keep (TotInv a b 1 gk os z) ∧ gk ≤ a.length ∧ -1 ≤ z ∧ z ≤ 1 ∧ c = .int .i64 z ∧ i = .int .i64 ((gk : Int) - 1) ∧ Keep (Box wr w.heap.size ((List.replicate gk 0 ++ os).map iv)) ∧ Below w.heap.size w wr)
  case atStart =>
    exact ⟨[], 0, ⟨TotInv.start a b 1 HL.out⟩, Nat.le_refl _, by omega, by omega, rfl, by go_num, ⟨by rw [List.append_nil]; exact Box.made _ rfl _⟩, al1 _ _⟩
  case round =>
    obtain ⟨os, z, HT, hk, hz0, hz1, rfl, rfl, HX, hbw⟩ := hrel
    cases gk with
    | zero =>
      have HE := Keep.mk (HT.out.done HZ.out.1 HZ.out.2)
      rw [show (((0 : Nat) : Int) - 1) = -1 by rfl]
      have HX2 := Keep.mk (show Box wr w.heap.size (os.map iv) from HX.out)
      clear HX HT
      go_wp2
      go_ret
      exact ⟨os, rfl, HX2.out, HE.out.1, HE.out.2.1, HE.out.2.2, hbw⟩
    | succ k =>
      rw [show (((k + 1 : Nat) : Int) - 1) = (k : Int) by omega]
      have hlt : k < a.length := hk
      have hltb : k < b.length := by rw [← HL.out]; exact hk
      obtain ⟨g, o, rfl, hg, hc⟩ := (HI.out.below hbw (Nat.le_refl _)).at_ (by omega)
      obtain ⟨g', o', rfl, hg', hc'⟩ := (HJ.out.below hbw (Nat.le_refl _)).at_ (by omega)
      have hck := hc k hlt
      have hck' := hc' k hltb
      have hg2 := Nat.lt_of_lt_of_le hg hbw.size
      have hg2' := Nat.lt_of_lt_of_le hg' hbw.size
      have hcap := HI.out.le
      have hcap' := HJ.out.le
      rw [← HL.out] at hcap'
      have h9 := HA.out _ (List.getElem_mem hlt)
      have h9' := HB.out _ (List.getElem_mem hltb)
      have HS := Keep.mk (fun d c' hd hc he => HT.out.step HL.out hlt hltb d c' hd hc he)
      have lt := HX.out.lt
      have ho := HX.out.cell k (iv 0) (by rw [List.map_append, List.map_replicate, List.getElem?_append_left (by simp)]; simp)
      have hf := HX.out.froz k
      unfold iv at ho
      clear hc hc'
      generalize a[k] = x at *
      generalize b[k] = y at *
      clear hltb
      go_wp2_with fail
      refine wp_region_above (by kernel_rfl) (by kernel_rfl) ?_
      repeat (go_big_quiet_step (fail))
      refine wpQuiet_nil ?_
      rintro _ ⟨u, rfl⟩
      by_cases hbig : 9 < (x : Int) + y + z
      · go_wp2
        go_roundg k
        case rel => exact ⟨((x : Int) + y + z - 10).toNat :: os, 1, ⟨HS.out _ 1 (by omega) (by omega) (by omega)⟩, by omega, by omega, by omega, rfl, by go_num, ⟨tot_box (HX.out.below u.property lt) (iv_eq (by omega))⟩, st1 (up hbw u.property) _ _ _ (Nat.le_refl _)⟩
        case measure => omega
      · by_cases hneg : (x : Int) + y + z < 0
        · go_wp2
          go_roundg k
          case rel => exact ⟨((x : Int) + y + z + 10).toNat :: os, -1, ⟨HS.out _ (-1) (by omega) (by omega) (by omega)⟩, by omega, by omega, by omega, rfl, by go_num, ⟨tot_box (HX.out.below u.property lt) (iv_eq (by omega))⟩, st1 (up hbw u.property) _ _ _ (Nat.le_refl _)⟩
          case measure => omega
        · go_wp2
          go_roundg k
          case rel => exact ⟨((x : Int) + y + z).toNat :: os, 0, ⟨HS.out _ 0 (by omega) (by omega) (by omega)⟩, by omega, by omega, by omega, rfl, by go_num, ⟨tot_box (HX.out.below u.property lt) (iv_eq (by omega))⟩, st1 (up hbw u.property) _ _ _ (Nat.le_refl _)⟩
          case measure => omega
set_option maxRecDepth 100000 in
set_option maxHeartbeats 1000000 in
theorem ref_total_sub (A A2 : Option Addr) (c c2 : Nat) (a b : List Nat) (ha : Digs a) (hb : Digs b) (hl : a.length = b.length) (hm : a.length ≤ 1000000) (h0 : 0 ≤ (val a : Int) + (-1) * val b) (h1 : (val a : Int) + (-1) * val b < (10 ^ a.length : Nat))
    (w : World) (hI : IntsAt w w.heap.size A c a) (hJ : IntsAt w w.heap.size A2 c2 b) :
    Calls Tryd.prog 114 #[.slice A a.length c, .slice A2 b.length c2, .bool true] w fun r w' => ∃ os, r = .returned (.slice (some ⟨w.heap.size, 0, none⟩) a.length a.length) ∧ Box w' w.heap.size (os.map iv) ∧ os.length = a.length ∧ Digs os ∧ (val os : Int) = val a + (-1) * val b ∧ Below w.heap.size w w' := by
  have HI := Keep.mk hI
  have HJ := Keep.mk hJ
  have HL := Keep.mk hl
  have HA := Keep.mk ha
  have HB := Keep.mk hb
  have HZ := Keep.mk (And.intro h0 h1)
  rw [← hl]
  clear hI hJ hl ha hb h0 h1
  have hmk := run_make_row' (P := Tryd.prog) 63 3 (.int .i64 0) 8 Tryd.underlying63 int_info rfl .i64 .i64 a.length (by omega) (by omega)
  go_enter Tryd.func114, Tryd.ntmps114
  go_wp2_with fail
  clear hmk
  go_loopg [8, 9, 10] a.length (fun gk c i d wr => ∃ (os : List Nat) (z : Int), Keep (TotInv a b (-1) gk os z) ∧ gk ≤ a.length ∧ -1 ≤ z ∧ z ≤ 1 ∧ c = .int .i64 z ∧ i = .int .i64 ((gk : Int) - 1) ∧ Keep (Box wr w.heap.size ((List.replicate gk 0 ++ os).map iv)) ∧ Below w.heap.size w wr)
  case atStart =>
    exact ⟨[], 0, ⟨TotInv.start a b (-1) HL.out⟩, Nat.le_refl _, by omega, by omega, rfl, by go_num, ⟨by rw [List.append_nil]; exact Box.made _ rfl _⟩, al1 _ _⟩
  case round =>
    obtain ⟨os, z, HT, hk, hz0, hz1, rfl, rfl, HX, hbw⟩ := hrel
    cases gk with
    | zero =>
      have HE := Keep.mk (HT.out.done HZ.out.1 HZ.out.2)
      rw [show (((0 : Nat) : Int) - 1) = -1 by rfl]
      have HX2 := Keep.mk (show Box wr w.heap.size (os.map iv) from HX.out)
      clear HX HT
      go_wp2
      go_ret
      exact ⟨os, rfl, HX2.out, HE.out.1, HE.out.2.1, HE.out.2.2, hbw⟩
    | succ k =>
      rw [show (((k + 1 : Nat) : Int) - 1) = (k : Int) by omega]
      have hlt : k < a.length := hk
      have hltb : k < b.length := by rw [← HL.out]; exact hk
      obtain ⟨g, o, rfl, hg, hc⟩ := (HI.out.below hbw (Nat.le_refl _)).at_ (by omega)
      obtain ⟨g', o', rfl, hg', hc'⟩ := (HJ.out.below hbw (Nat.le_refl _)).at_ (by omega)
      have hck := hc k hlt
      have hck' := hc' k hltb
      have hg2 := Nat.lt_of_lt_of_le hg hbw.size
      have hg2' := Nat.lt_of_lt_of_le hg' hbw.size
      have hcap := HI.out.le
      have hcap' := HJ.out.le
      rw [← HL.out] at hcap'
      have h9 := HA.out _ (List.getElem_mem hlt)
      have h9' := HB.out _ (List.getElem_mem hltb)
      have HS := Keep.mk (fun d c' hd hc he => HT.out.step HL.out hlt hltb d c' hd hc he)
      have lt := HX.out.lt
      have ho := HX.out.cell k (iv 0) (by rw [List.map_append, List.map_replicate, List.getElem?_append_left (by simp)]; simp)
      have hf := HX.out.froz k
      unfold iv at ho
      clear hc hc'
      generalize a[k] = x at *
      generalize b[k] = y at *
      clear hltb
      go_wp2_with fail
      refine wp_region_above (by kernel_rfl) (by kernel_rfl) ?_
      repeat (go_big_quiet_step (fail))
      refine wpQuiet_nil ?_
      rintro _ ⟨u, rfl⟩
      have hg3 := Nat.lt_of_lt_of_le hg2 u.property.size
      have hg3' := Nat.lt_of_lt_of_le hg2' u.property.size
      have lt3 := Nat.lt_of_lt_of_le lt u.property.size
      go_wp2_with fail
      refine wp_region_above (by kernel_rfl) (by kernel_rfl) ?_
      repeat (go_big_quiet_step (fail))
      refine wpQuiet_nil ?_
      rintro _ ⟨u2, rfl⟩
      by_cases hbig : 9 < (x : Int) - y + z
      · go_wp2
        go_roundg k
        case rel => exact ⟨((x : Int) - y + z - 10).toNat :: os, 1, ⟨HS.out _ 1 (by omega) (by omega) (by omega)⟩, by omega, by omega, by omega, rfl, by go_num, ⟨tot_box ((HX.out.below u.property lt).below u2.property lt3) (iv_eq (by omega))⟩, st1 (up (up hbw u.property) u2.property) _ _ _ (Nat.le_refl _)⟩
        case measure => omega
      · by_cases hneg : (x : Int) - y + z < 0
        · go_wp2
          go_roundg k
          case rel => exact ⟨((x : Int) - y + z + 10).toNat :: os, -1, ⟨HS.out _ (-1) (by omega) (by omega) (by omega)⟩, by omega, by omega, by omega, rfl, by go_num, ⟨tot_box ((HX.out.below u.property lt).below u2.property lt3) (iv_eq (by omega))⟩, st1 (up (up hbw u.property) u2.property) _ _ _ (Nat.le_refl _)⟩
          case measure => omega
        · go_wp2
          go_roundg k
          case rel => exact ⟨((x : Int) - y + z).toNat :: os, 0, ⟨HS.out _ 0 (by omega) (by omega) (by omega)⟩, by omega, by omega, by omega, rfl, by go_num, ⟨tot_box ((HX.out.below u.property lt).below u2.property lt3) (iv_eq (by omega))⟩, st1 (up (up hbw u.property) u2.property) _ _ _ (Nat.le_refl _)⟩
          case measure => omega
end Go.Proofs.YtljemfajjeoecaaDoor
