/- The references' wide: digits with noughts behind and ahead. Conditions: the digits and the noughts are no more than some thousands. -/
import Derived.Test.YtljemfajjeoecaaDoorRefLong
namespace Go.Proofs.YtljemfajjeoecaaDoor
open Go Go.RowKit Go.Proofs Th

theorem wideL_eq (ds : List Nat) (k many : Nat) : wideL ds k many = List.replicate (many - (ds ++ List.replicate k 0).length) 0 ++ (ds ++ List.replicate k 0) := by unfold wideL; simp

set_option maxRecDepth 100000 in
set_option maxHeartbeats 1000000 in
theorem ref_wide (neg : Bool) (A : Option Addr) (c : Nat) (ds : List Nat) (xe e : Int) (many : Nat) (hl : ds.length ≤ 10000) (he : -10000 ≤ e ∧ xe ≤ 10000) (hm : many ≤ 100000) (w : World) (hI : IntsAt w w.heap.size A c ds) :
    Calls Tryd.prog 145 #[.agg #[.bool neg, .slice A ds.length c, .int .i64 xe], .int .i64 e, .int .i64 many] w fun r w' =>
      ∃ A' c', r = .returned (.slice A' (wideL ds (xe - e).toNat many).length c') ∧ IntsAt w' w'.heap.size A' c' (wideL ds (xe - e).toNat many) ∧ Below w.heap.size w w' := by
  obtain ⟨he0, he1⟩ := he
  have HI := Keep.mk hI
  clear hI
  go_enter Tryd.func145, Tryd.ntmps145
  go_wp2_with (at_builtin; refine wpList_append_ints rfl (.tmp 9) (.tmp 11) rfl (w.heap.size + 1) _ [] rfl (OwnInts.empty (by simp) (by omega)) w.heap.size A ds.length c ds rfl rfl (HI.out.below (al2 _ _ _) (Nat.le_refl _)) (by simp; omega) (by simp) ?_; intro v1 w1 hown1 hb1; obtain ⟨A1, c1, rfl, hI1⟩ := hown1.ints; have HO1 := Keep.mk hown1; clear hown1 hI1)
  have hb2 := (al2 w (.cells #[.bool neg, .slice A ds.length c, .int .i64 xe] 86) (.cells #[] 3)).trans (hb1.mono (by omega))
  have HX := Keep.mk (((Box.new (w := w) [.bool neg, .slice A ds.length c, .int .i64 xe] 86 rfl).alloc (.cells #[] 3)).below hb1 (by omega))
  clear hb1
  go_loopg [7, 8] (xe - e).toNat (fun gk d i wr => ∃ (v : Value) (k : Nat), Keep (gk + k = (xe - e).toNat) ∧ d = v ∧ i = .int .i64 (e + k) ∧ Keep (OwnInts wr (w.heap.size + 1) v (ds ++ List.replicate k 0)) ∧ Box wr w.heap.size [.bool neg, .slice A ds.length c, .int .i64 xe] ∧ Below w.heap.size w wr)
  case atStart => exact ⟨_, 0, ⟨by omega⟩, rfl, by simp, ⟨by simpa using HO1.out⟩, HX.out, hb2⟩
  case round =>
    obtain ⟨v, k, HK, rfl, rfl, HO, HX, hb⟩ := hrel
    have x2 := HX.cell 2 _ rfl
    have lt := HX.lt
    have hk := HK.out
    have hk2 : k ≤ 20000 := by omega
    by_cases hlt : e + k < xe
    · have hgk : gk ≠ 0 := by omega
      clear hk
      go_wp2_with (at_builtin; (refine wpList_append_ints rfl (.tmp 20) (.tmp 21) rfl (w.heap.size + 1) _ (ds ++ List.replicate k 0) (by rfl) (HO.out.alloc _) (wr.heap.size + 1) _ 1 1 [0] rfl (by rfl) (IntsAt.one 0 0 rfl rfl) (by simp; omega) (by simp; omega) ?_; intro v2 w2 hown2 hb2; have HO2 := Keep.mk hown2; have HX2 := Keep.mk ((HX.alloc (.cells #[.int .i64 0] 3)).below hb2 (by omega)); have HB2 := Keep.mk ((up hb (al1 wr (.cells #[.int .i64 0] 3))).trans (hb2.mono (by omega))); clear hown2 hb2))
      go_roundg (gk - 1)
      case rel => exact ⟨v2, k + 1, ⟨by have := HK.out; omega⟩, rfl, by go_num, ⟨by have h := HO2.out; rw [List.append_assoc, show [0] = List.replicate 1 0 from rfl, List.replicate_append_replicate] at h; exact h⟩, HX2.out, HB2.out⟩
      case measure => omega
    · have hkk : (xe - e).toNat = k ∨ ((xe - e).toNat = 0 ∧ k = 0) := by omega
      have hke : k = (xe - e).toNat := by omega
      subst hke
      obtain ⟨A2, c2, rfl, hI2⟩ := HO.out.ints
      have HI2 := Keep.mk HO.out
      clear hk hkk HK HO hI2
      generalize hys : ds ++ List.replicate (xe - e).toNat 0 = ys at *
      have hyl : ys.length ≤ 30000 := by rw [← hys]; simp; omega
      have HE := Keep.mk (wideL_eq ds (xe - e).toNat many)
      rw [hys] at HE
      clear hys hk2
      go_wp2_with fail
      clear x2 HX hlt
      go_loopg [7] many (fun gk d wr' => ∃ (A' : Option Addr) (c' j : Nat), Keep (gk + j = many) ∧ Keep (j ≤ many - ys.length) ∧ d = .slice A' (j + ys.length) c' ∧ Keep (OwnInts wr' (w.heap.size + 1) (.slice A' (j + ys.length) c') (List.replicate j 0 ++ ys)) ∧ Below w.heap.size w wr' ∧ w.heap.size < wr'.heap.size)
      case atStart => exact ⟨A2, c2, 0, ⟨by omega⟩, ⟨by omega⟩, by simp, ⟨by simpa using HI2.out⟩, hb, lt⟩
      case round =>
        clear HI2 hb lt
        obtain ⟨A', c', j, HK, HJ, rfl, HO, hb, lt⟩ := hrel
        have hk := HK.out
        have hj := HJ.out
        have hj2 : j ≤ 100000 := by omega
        by_cases hlt : j + ys.length < many
        · go_upto_region 7 with fail
          have hgk : gk ≠ 0 := by omega
          have HI3 := Keep.mk HO.out.read
          clear HO hk hj
          generalize hv : Value.slice A' (j + ys.length) c' = v at *
          have HV := Keep.mk hv
          clear hv
          go_wp2_with (at_builtin; (refine wpList_append_ints rfl (.tmp 27) (.tmp 28) rfl (w.heap.size + 1) _ [0] (by rfl) (OwnInts.one 0 rfl (by omega)) wr.heap.size A' (j + ys.length) c' (List.replicate j 0 ++ ys) (by simp) (by exact HV.out.symm) (HI3.out.below (al1 _ _) (Nat.le_refl _)) (by simp; omega) (by simp; omega) ?_; intro v2 w2 hown2 hb2; obtain ⟨A3, c3, hv3, _⟩ := hown2.ints; have HV3 := Keep.mk hv3; have HO3 := Keep.mk hown2; have HB3 := Keep.mk ((up hb (al1 wr (.cells #[.int .i64 0] 3))).trans (hb2.mono (by omega))); have lt3 : w.heap.size < w2.heap.size := by { have h5 := hb2.size; simp at h5; omega }; clear hown2 hb2 hv3))
          go_roundg (gk - 1)
          case rel =>
            have e : [0] ++ (List.replicate j 0 ++ ys) = List.replicate (j + 1) 0 ++ ys := rfl
            have h3 := HO3.out
            have hv := HV3.out
            rw [e] at h3 hv
            have hl : (List.replicate (j + 1) 0 ++ ys).length = j + 1 + ys.length := by simp
            rw [hl] at hv
            subst hv
            exact ⟨A3, c3, j + 1, ⟨by have := HK.out; omega⟩, ⟨by have := HJ.out; omega⟩, rfl, ⟨h3⟩, HB3.out, lt3⟩
          case measure => omega
        · have HW := Keep.mk (show wideL ds (xe - e).toNat many = List.replicate j 0 ++ ys by rw [HE.out]; congr 2; omega)
          have HO2 := Keep.mk HO.out.read
          clear hk hj HK HJ HO
          have hl : (List.replicate j 0 ++ ys).length = j + ys.length := by simp
          go_wp2
          go_ret
          exact ⟨A', c', by rw [HW.out, hl]; rfl, by rw [HW.out]; exact HO2.out, hb⟩
end Go.Proofs.YtljemfajjeoecaaDoor
