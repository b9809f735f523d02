/- Lemmas and contracts for the laws CalcWith, part 21 of 50: ValD. Conditions: those that each lemma names. -/
import Derived.Test.YtnkokhpadcgfbaaGreatDoorPw19
import Derived.Test.YtnkokhpadcgfbaaGreatDoorPw10
import Derived.Test.YtnkokhpadcgfbaaGreatDoorPw6
import Derived.WalkLawsBesides
import Derived.IntWalk
import Derived.Outline
namespace Go.Proofs.YtnkokhpadcgfbaaGreatDoor
open Go Go.RowKit Go.Proofs Th
attribute [local go_sem] Above.cell
def bareB (k m e : Int) (n : Nat) (q q' : Nat) : Bool := decide (0 ≤ k ∧ k ≤ 6) && (decide (k = 3) || (decide (m = 0) && decide (e = 0))) && (decide (k = 4) || decide (n = 0)) && (decide (5 ≤ k) || decide (q = 0)) && (decide (k = 6) || decide (q' = 0))
theorem bare_out (k m e : Int) (n q q' : Nat) (h : k < 0 ∨ 6 < k) : bareB k m e n q q' = false := by
  unfold bareB; rw [decide_eq_false (show ¬ (0 ≤ k ∧ k ≤ 6) by omega)]; rfl
theorem bare_A (k m e : Int) (n q q' : Nat) (h : k ≠ 3) (h2 : (m == 0 && e == 0) = false) : bareB k m e n q q' = false := by
  have h3 : (decide (m = 0) && decide (e = 0)) = false := h2
  unfold bareB; rw [decide_eq_false h, h3]; simp
theorem bare_B (k m e : Int) (n q q' : Nat) (h : k ≠ 4) (h2 : n ≠ 0) : bareB k m e n q q' = false := by
  unfold bareB; rw [decide_eq_false h, decide_eq_false h2]; simp
theorem bare_C (k m e : Int) (n q q' : Nat) (h : k < 5) (h2 : q ≠ 0) : bareB k m e n q q' = false := by
  unfold bareB; rw [decide_eq_false (show ¬ 5 ≤ k by omega), decide_eq_false h2]; simp
theorem bare_D (k m e : Int) (n q q' : Nat) (h : k ≠ 6) (h2 : q' ≠ 0) : bareB k m e n q q' = false := by
  unfold bareB; rw [decide_eq_false h, decide_eq_false h2]; simp
theorem bare_yes (k m e : Int) (n q q' : Nat) (h0 : 0 ≤ k ∧ k ≤ 6) (hA : k = 3 ∨ (m == 0 && e == 0) = true) (hB : k = 4 ∨ n = 0) (hC : 5 ≤ k ∨ q = 0) (hD : k = 6 ∨ q' = 0) : bareB k m e n q q' = true := by
  have hA2 : (decide (k = 3) || (decide (m = 0) && decide (e = 0))) = true := by
    rcases hA with h | h
    · rw [decide_eq_true h]; rfl
    · rw [show (decide (m = 0) && decide (e = 0)) = true from h]; simp
  unfold bareB
  rw [decide_eq_true h0, hA2]
  simp [hB, hC, hD]
set_option maxRecDepth 100000 in
theorem bare_far (k : Int) (hk : k < 0 ∨ 6 < k) (m e : Int) (s : ByteArray) (A : Option Addr) (q c : Nat) (A' : Option Addr) (q' c' : Nat) (_hq : q ≤ 140737488351232) (_hq' : q' ≤ 140737488351232) (w : World) :
    Calls Tryz.prog 163 #[.agg #[.int .i64 k, .int .i64 m, .int .i64 e, .string s, .slice A q c, .slice A' q' c']] w fun r w' => r = .returned (.bool (bareB k m e s.size q q')) ∧ Below w.heap.size w w' := by
  have HE := Keep.mk (bare_out k m e s.size q q' hk)
  rcases hk with hk | hk
  all_goals
    go_enter Tryz.func163, Tryz.ntmps163
    go_wp2
    go_ret
    exact ⟨by rw [HE.out]; rfl, al1 _ _⟩
set_option maxRecDepth 100000 in
theorem bare_012 (k : Int) (hk : 0 ≤ k ∧ k < 3) (m e : Int) (s : ByteArray) (A : Option Addr) (q c : Nat) (A' : Option Addr) (q' c' : Nat) (hq : q ≤ 140737488351232) (hq' : q' ≤ 140737488351232) (w : World) :
    Calls Tryz.prog 163 #[.agg #[.int .i64 k, .int .i64 m, .int .i64 e, .string s, .slice A q c, .slice A' q' c']] w fun r w' => r = .returned (.bool (bareB k m e s.size q q')) ∧ Below w.heap.size w w' := by
  have g0 : ¬ k < 0 := by omega
  have g6 : ¬ 6 < k := by omega
  have b3 : (k != 3) = true := by simp; omega
  have b4 : (k != 4) = true := by simp; omega
  have b6 : (k != 6) = true := by simp; omega
  have g5 : k < 5 := by omega
  cases hA : (m == 0 && e == 0)
  case false =>
    have HE := Keep.mk (bare_A k m e s.size q q' (by omega) hA)
    clear hk
    go_enter Tryz.func163, Tryz.ntmps163
    go_wp2
    go_ret
    exact ⟨by rw [HE.out]; rfl, by first | exact al1 _ _ | exact al2 _ _ _⟩
  case true =>
  by_cases hB : s.size = 0
  case neg =>
    have HE := Keep.mk (bare_B k m e s.size q q' (by omega) hB)
    have hs1 : s.toList.isEmpty = false := by
      cases h : s.toList.isEmpty
      · rfl
      · rw [List.isEmpty_iff, ba_list] at h; have h2 := size_listU s; rw [h] at h2; exact absurd h2.symm hB
    clear hk hB
    go_enter Tryz.func163, Tryz.ntmps163
    go_wp2
    go_ret
    exact ⟨by rw [HE.out]; rfl, by first | exact al1 _ _ | exact al2 _ _ _⟩
  case pos =>
  have hs1 : s.toList.isEmpty = true := by rw [List.isEmpty_iff, ba_list]; exact List.eq_nil_of_length_eq_zero ((size_listU s).trans hB)
  replace hB := Keep.mk hB
  by_cases hC : q = 0
  case neg =>
    have HE := Keep.mk (bare_C k m e s.size q q' (by omega) hC)
    have hC2 : (0 : Int) < q := by omega
    clear hk hC
    go_enter Tryz.func163, Tryz.ntmps163
    go_wp2
    go_ret
    exact ⟨by rw [HE.out]; rfl, by first | exact al1 _ _ | exact al2 _ _ _⟩
  case pos =>
  have hC2 : ¬ (0 : Int) < q := by omega
  replace hC := Keep.mk hC
  by_cases hD : q' = 0
  case neg =>
    have HE := Keep.mk (bare_D k m e s.size q q' (by omega) hD)
    have hD2 : (0 : Int) < q' := by omega
    clear hk hD
    go_enter Tryz.func163, Tryz.ntmps163
    go_wp2
    go_ret
    exact ⟨by rw [HE.out]; rfl, by first | exact al1 _ _ | exact al2 _ _ _⟩
  case pos =>
  have hD2 : ¬ (0 : Int) < q' := by omega
  replace hD := Keep.mk hD
  have HE := Keep.mk (bare_yes k m e s.size q q' (by omega) (Or.inr hA) (Or.inr hB.out) (Or.inr hC.out) (Or.inr hD.out))
  clear hk
  go_enter Tryz.func163, Tryz.ntmps163
  go_wp2
  go_ret
  exact ⟨by rw [HE.out]; rfl, by first | exact al1 _ _ | exact al2 _ _ _⟩
set_option maxRecDepth 100000 in
theorem bare_3 (k : Int) (hk : k = 3) (m e : Int) (s : ByteArray) (A : Option Addr) (q c : Nat) (A' : Option Addr) (q' c' : Nat) (hq : q ≤ 140737488351232) (hq' : q' ≤ 140737488351232) (w : World) :
    Calls Tryz.prog 163 #[.agg #[.int .i64 k, .int .i64 m, .int .i64 e, .string s, .slice A q c, .slice A' q' c']] w fun r w' => r = .returned (.bool (bareB k m e s.size q q')) ∧ Below w.heap.size w w' := by
  have g0 : ¬ k < 0 := by omega
  have g6 : ¬ 6 < k := by omega
  have b3 : (k != 3) = false := by simp; omega
  have b4 : (k != 4) = true := by simp; omega
  have b6 : (k != 6) = true := by simp; omega
  have g5 : k < 5 := by omega
  by_cases hB : s.size = 0
  case neg =>
    have HE := Keep.mk (bare_B k m e s.size q q' (by omega) hB)
    have hs1 : s.toList.isEmpty = false := by
      cases h : s.toList.isEmpty
      · rfl
      · rw [List.isEmpty_iff, ba_list] at h; have h2 := size_listU s; rw [h] at h2; exact absurd h2.symm hB
    clear hk hB
    go_enter Tryz.func163, Tryz.ntmps163
    go_wp2
    go_ret
    exact ⟨by rw [HE.out]; rfl, by first | exact al1 _ _ | exact al2 _ _ _⟩
  case pos =>
  have hs1 : s.toList.isEmpty = true := by rw [List.isEmpty_iff, ba_list]; exact List.eq_nil_of_length_eq_zero ((size_listU s).trans hB)
  replace hB := Keep.mk hB
  by_cases hC : q = 0
  case neg =>
    have HE := Keep.mk (bare_C k m e s.size q q' (by omega) hC)
    have hC2 : (0 : Int) < q := by omega
    clear hk hC
    go_enter Tryz.func163, Tryz.ntmps163
    go_wp2
    go_ret
    exact ⟨by rw [HE.out]; rfl, by first | exact al1 _ _ | exact al2 _ _ _⟩
  case pos =>
  have hC2 : ¬ (0 : Int) < q := by omega
  replace hC := Keep.mk hC
  by_cases hD : q' = 0
  case neg =>
    have HE := Keep.mk (bare_D k m e s.size q q' (by omega) hD)
    have hD2 : (0 : Int) < q' := by omega
    clear hk hD
    go_enter Tryz.func163, Tryz.ntmps163
    go_wp2
    go_ret
    exact ⟨by rw [HE.out]; rfl, by first | exact al1 _ _ | exact al2 _ _ _⟩
  case pos =>
  have hD2 : ¬ (0 : Int) < q' := by omega
  replace hD := Keep.mk hD
  have HE := Keep.mk (bare_yes k m e s.size q q' (by omega) (Or.inl (by omega)) (Or.inr hB.out) (Or.inr hC.out) (Or.inr hD.out))
  clear hk
  go_enter Tryz.func163, Tryz.ntmps163
  go_wp2
  go_ret
  exact ⟨by rw [HE.out]; rfl, by first | exact al1 _ _ | exact al2 _ _ _⟩
set_option maxRecDepth 100000 in
theorem bare_4 (k : Int) (hk : k = 4) (m e : Int) (s : ByteArray) (A : Option Addr) (q c : Nat) (A' : Option Addr) (q' c' : Nat) (hq : q ≤ 140737488351232) (hq' : q' ≤ 140737488351232) (w : World) :
    Calls Tryz.prog 163 #[.agg #[.int .i64 k, .int .i64 m, .int .i64 e, .string s, .slice A q c, .slice A' q' c']] w fun r w' => r = .returned (.bool (bareB k m e s.size q q')) ∧ Below w.heap.size w w' := by
  have g0 : ¬ k < 0 := by omega
  have g6 : ¬ 6 < k := by omega
  have b3 : (k != 3) = true := by simp; omega
  have b4 : (k != 4) = false := by simp; omega
  have b6 : (k != 6) = true := by simp; omega
  have g5 : k < 5 := by omega
  cases hA : (m == 0 && e == 0)
  case false =>
    have HE := Keep.mk (bare_A k m e s.size q q' (by omega) hA)
    clear hk
    go_enter Tryz.func163, Tryz.ntmps163
    go_wp2
    go_ret
    exact ⟨by rw [HE.out]; rfl, by first | exact al1 _ _ | exact al2 _ _ _⟩
  case true =>
  by_cases hC : q = 0
  case neg =>
    have HE := Keep.mk (bare_C k m e s.size q q' (by omega) hC)
    have hC2 : (0 : Int) < q := by omega
    clear hk hC
    go_enter Tryz.func163, Tryz.ntmps163
    go_wp2
    go_ret
    exact ⟨by rw [HE.out]; rfl, by first | exact al1 _ _ | exact al2 _ _ _⟩
  case pos =>
  have hC2 : ¬ (0 : Int) < q := by omega
  replace hC := Keep.mk hC
  by_cases hD : q' = 0
  case neg =>
    have HE := Keep.mk (bare_D k m e s.size q q' (by omega) hD)
    have hD2 : (0 : Int) < q' := by omega
    clear hk hD
    go_enter Tryz.func163, Tryz.ntmps163
    go_wp2
    go_ret
    exact ⟨by rw [HE.out]; rfl, by first | exact al1 _ _ | exact al2 _ _ _⟩
  case pos =>
  have hD2 : ¬ (0 : Int) < q' := by omega
  replace hD := Keep.mk hD
  have HE := Keep.mk (bare_yes k m e s.size q q' (by omega) (Or.inr hA) (Or.inl (by omega)) (Or.inr hC.out) (Or.inr hD.out))
  clear hk
  go_enter Tryz.func163, Tryz.ntmps163
  go_wp2
  go_ret
  exact ⟨by rw [HE.out]; rfl, by first | exact al1 _ _ | exact al2 _ _ _⟩
set_option maxRecDepth 100000 in
theorem bare_5 (k : Int) (hk : k = 5) (m e : Int) (s : ByteArray) (A : Option Addr) (q c : Nat) (A' : Option Addr) (q' c' : Nat) (_hq : q ≤ 140737488351232) (hq' : q' ≤ 140737488351232) (w : World) :
    Calls Tryz.prog 163 #[.agg #[.int .i64 k, .int .i64 m, .int .i64 e, .string s, .slice A q c, .slice A' q' c']] w fun r w' => r = .returned (.bool (bareB k m e s.size q q')) ∧ Below w.heap.size w w' := by
  have g0 : ¬ k < 0 := by omega
  have g6 : ¬ 6 < k := by omega
  have b3 : (k != 3) = true := by simp; omega
  have b4 : (k != 4) = true := by simp; omega
  have b6 : (k != 6) = true := by simp; omega
  have g5 : ¬ k < 5 := by omega
  cases hA : (m == 0 && e == 0)
  case false =>
    have HE := Keep.mk (bare_A k m e s.size q q' (by omega) hA)
    clear hk
    go_enter Tryz.func163, Tryz.ntmps163
    go_wp2
    go_ret
    exact ⟨by rw [HE.out]; rfl, by first | exact al1 _ _ | exact al2 _ _ _⟩
  case true =>
  by_cases hB : s.size = 0
  case neg =>
    have HE := Keep.mk (bare_B k m e s.size q q' (by omega) hB)
    have hs1 : s.toList.isEmpty = false := by
      cases h : s.toList.isEmpty
      · rfl
      · rw [List.isEmpty_iff, ba_list] at h; have h2 := size_listU s; rw [h] at h2; exact absurd h2.symm hB
    clear hk hB
    go_enter Tryz.func163, Tryz.ntmps163
    go_wp2
    go_ret
    exact ⟨by rw [HE.out]; rfl, by first | exact al1 _ _ | exact al2 _ _ _⟩
  case pos =>
  have hs1 : s.toList.isEmpty = true := by rw [List.isEmpty_iff, ba_list]; exact List.eq_nil_of_length_eq_zero ((size_listU s).trans hB)
  replace hB := Keep.mk hB
  by_cases hD : q' = 0
  case neg =>
    have HE := Keep.mk (bare_D k m e s.size q q' (by omega) hD)
    have hD2 : (0 : Int) < q' := by omega
    clear hk hD
    go_enter Tryz.func163, Tryz.ntmps163
    go_wp2
    go_ret
    exact ⟨by rw [HE.out]; rfl, by first | exact al1 _ _ | exact al2 _ _ _⟩
  case pos =>
  have hD2 : ¬ (0 : Int) < q' := by omega
  replace hD := Keep.mk hD
  have HE := Keep.mk (bare_yes k m e s.size q q' (by omega) (Or.inr hA) (Or.inr hB.out) (Or.inl (by omega)) (Or.inr hD.out))
  clear hk
  go_enter Tryz.func163, Tryz.ntmps163
  go_wp2
  go_ret
  exact ⟨by rw [HE.out]; rfl, by first | exact al1 _ _ | exact al2 _ _ _⟩
set_option maxRecDepth 100000 in
theorem bare_6 (k : Int) (hk : k = 6) (m e : Int) (s : ByteArray) (A : Option Addr) (q c : Nat) (A' : Option Addr) (q' c' : Nat) (_hq : q ≤ 140737488351232) (_hq' : q' ≤ 140737488351232) (w : World) :
    Calls Tryz.prog 163 #[.agg #[.int .i64 k, .int .i64 m, .int .i64 e, .string s, .slice A q c, .slice A' q' c']] w fun r w' => r = .returned (.bool (bareB k m e s.size q q')) ∧ Below w.heap.size w w' := by
  have g0 : ¬ k < 0 := by omega
  have g6 : ¬ 6 < k := by omega
  have b3 : (k != 3) = true := by simp; omega
  have b4 : (k != 4) = true := by simp; omega
  have b6 : (k != 6) = false := by simp; omega
  have g5 : ¬ k < 5 := by omega
  cases hA : (m == 0 && e == 0)
  case false =>
    have HE := Keep.mk (bare_A k m e s.size q q' (by omega) hA)
    clear hk
    go_enter Tryz.func163, Tryz.ntmps163
    go_wp2
    go_ret
    exact ⟨by rw [HE.out]; rfl, by first | exact al1 _ _ | exact al2 _ _ _⟩
  case true =>
  by_cases hB : s.size = 0
  case neg =>
    have HE := Keep.mk (bare_B k m e s.size q q' (by omega) hB)
    have hs1 : s.toList.isEmpty = false := by
      cases h : s.toList.isEmpty
      · rfl
      · rw [List.isEmpty_iff, ba_list] at h; have h2 := size_listU s; rw [h] at h2; exact absurd h2.symm hB
    clear hk hB
    go_enter Tryz.func163, Tryz.ntmps163
    go_wp2
    go_ret
    exact ⟨by rw [HE.out]; rfl, by first | exact al1 _ _ | exact al2 _ _ _⟩
  case pos =>
  have hs1 : s.toList.isEmpty = true := by rw [List.isEmpty_iff, ba_list]; exact List.eq_nil_of_length_eq_zero ((size_listU s).trans hB)
  replace hB := Keep.mk hB
  have HE := Keep.mk (bare_yes k m e s.size q q' (by omega) (Or.inr hA) (Or.inr hB.out) (Or.inl (by omega)) (Or.inl (by omega)))
  clear hk
  go_enter Tryz.func163, Tryz.ntmps163
  go_wp2
  go_ret
  exact ⟨by rw [HE.out]; rfl, by first | exact al1 _ _ | exact al2 _ _ _⟩
theorem value_bare (k : Int) (m e : Int) (s : ByteArray) (A : Option Addr) (q c : Nat) (A' : Option Addr) (q' c' : Nat) (hq : q ≤ 140737488351232) (hq' : q' ≤ 140737488351232) (w : World) :
    Calls Tryz.prog 163 #[.agg #[.int .i64 k, .int .i64 m, .int .i64 e, .string s, .slice A q c, .slice A' q' c']] w fun r w' => r = .returned (.bool (bareB k m e s.size q q')) ∧ Below w.heap.size w w' := by
  by_cases h : k < 0 ∨ 6 < k
  · exact bare_far k h m e s A q c A' q' c' hq hq' w
  · have : (0 ≤ k ∧ k < 3) ∨ k = 3 ∨ k = 4 ∨ k = 5 ∨ k = 6 := by omega
    rcases this with h | h | h | h | h
    · exact bare_012 k h m e s A q c A' q' c' hq hq' w
    · exact bare_3 k h m e s A q c A' q' c' hq hq' w
    · exact bare_4 k h m e s A q c A' q' c' hq hq' w
    · exact bare_5 k h m e s A q c A' q' c' hq hq' w
    · exact bare_6 k h m e s A q c A' q' c' hq hq' w
end Go.Proofs.YtnkokhpadcgfbaaGreatDoor
namespace Go.Proofs.YtnkokhpadcgfbaaGreatDoor
open Go Go.RowKit Go.Proofs Th
attribute [local go_sem] Above.cell
theorem rise_false {ks : List ByteArray} {j : Nat} (hj : j < ks.length) (h : keyOk ks j = false) : riseK ks = false := by
  cases hr : riseK ks
  · rfl
  · have := (rise_iff ks).1 hr j hj; rw [h] at this; cases this
set_option maxRecDepth 100000 in
theorem value_rising (ks : List ByteArray) (A : Option Addr) (c : Nat) (w : World) (hu : Utf w) (hK : StrsAt w w.heap.size A c ks) :
    Calls Tryz.prog 164 #[.slice A ks.length c] w fun r w' => r = .returned (.bool (riseK ks)) ∧ Below w.heap.size w w' := by
  have hkc := hK.cap
  have HU := Keep.mk hu
  clear hu
  go_enter Tryz.func164, Tryz.ntmps164
  go_wp2_with fail
  go_loopg [7] ks.length (fun gk i wr => ∃ j : Nat, j + gk = ks.length ∧ i = .int .i64 j ∧ Keep (∀ x, x < j → keyOk ks x = true) ∧ Keep (StrsAt wr w.heap.size A c ks) ∧ Keep (Utf wr) ∧ Keep (Below w.heap.size w wr))
  case atStart => exact ⟨0, by omega, rfl, ⟨by omega⟩, ⟨hK⟩, HU, ⟨Below.refl _ _⟩⟩
  case round =>
    clear hK HU
    obtain ⟨j, hj, rfl, HO, HK, HU, HB⟩ := hrel
    by_cases hlt : j < ks.length
    · have hgk : gk ≠ 0 := by omega
      obtain ⟨g, o, rfl, hg, hc⟩ := HK.out.at_ (by omega)
      have hwl := HB.out.size
      have hg2 : g < wr.heap.size := by omega
      have cj := hc j hlt
      have hsz := HK.out.small _ (List.getElem_mem hlt)
      have HKO := Keep.mk (show keyOk ks j = (Lib.validD (ks[j]).data.toList && (decide (j = 0) || Op.bytesLess (ks.getD (j - 1) ⟨#[]⟩).data.toList (ks[j]).data.toList)) by
        unfold keyOk; rw [List.getD_eq_getElem?_getD, List.getElem?_eq_getElem hlt]; rfl)
      have HC := Keep.mk (quote_Right ks[j] (by omega) wr HU.out)
      have HBAD := Keep.mk (rise_false (ks := ks) hlt)
      have HOK := Keep.mk (fun h : keyOk ks j = true => show ∀ x, x < j + 1 → keyOk ks x = true by
        intro x hx
        by_cases hxj : x < j
        · exact HO.out x hxj
        · obtain rfl : x = j := by omega
          exact h)
      cases hv : Lib.validD (ks[j]).data.toList
      · have HF := Keep.mk (HBAD.out (by rw [HKO.out, hv]; rfl))
        rw [hv] at HC
        clear hc HKO hv
        generalize ks[j] = kb at *
        go_wp2_with fail
        refine (HC.out).mono ?_
        rintro r w1 ⟨rfl, hb1⟩
        go_wp2
        go_ret
        exact ⟨by rw [HF.out]; rfl, up HB.out hb1⟩
      · rw [hv] at HC
        rcases Nat.eq_zero_or_pos j with rfl | hj0
        · have cj0 : wr.cell? ⟨g, o, none⟩ = some (.string ks[0]) := cj
          have HF := Keep.mk (HOK.out (by rw [HKO.out, hv]; rfl))
          clear hc cj HKO hv
          generalize ks[0] = kb at *
          go_wp2_with fail
          refine (HC.out).mono ?_
          rintro r w1 ⟨rfl, hb1⟩
          go_wp2
          go_roundg (gk - 1)
          case rel => exact ⟨1, by omega, by go_num, HF, ⟨HK.out.below hb1 HB.out.size⟩, ⟨HU.out.below hb1⟩, ⟨up HB.out hb1⟩⟩
          case measure => omega
        · have hj1 : j - 1 < ks.length := by omega
          have cj1 := hc (j - 1) hj1
          rw [decide_eq_false (by omega), Bool.false_or, List.getD_eq_getElem?_getD, List.getElem?_eq_getElem hj1] at HKO
          obtain ⟨kp, hkp⟩ : ∃ b, ks[j - 1] = b := ⟨_, rfl⟩
          rw [hkp] at cj1 HKO
          simp only [Option.getD_some] at HKO
          obtain ⟨i, hi⟩ : ∃ i : Nat, (j : Int) - 1 = i := ⟨j - 1, by omega⟩
          have hie : j - 1 = i := by omega
          rw [hie] at cj1
          have hin : i < ks.length := by omega
          have wi : IntKind.i64.wrap (i : Int) = i := IntWalk.i64_in _ (by omega)
          have wj : IntKind.i64.wrap ((j : Int) - 1) = i := by rw [hi]; exact wi
          have hj0' : (0 : Int) < j := by omega
          rw [hv, Bool.true_and, ← ba_list kp, ← ba_list ks[j]] at HKO
          clear hc hie hkp hj1 hv
          generalize ks[j] = kb at *
          cases hw : Op.bytesLess kp.toList kb.toList
          · have HF := Keep.mk (HBAD.out (by rw [HKO.out, hw]))
            go_wp2_with fail
            refine (HC.out).mono ?_
            rintro r w1 ⟨rfl, hb1⟩
            have cj2 := (hb1.cell (p := ⟨g, o + i, none⟩) hg2).trans cj1
            go_wp2
            go_ret
            exact ⟨by rw [HF.out]; rfl, up HB.out hb1⟩
          · have HF := Keep.mk (HOK.out (by rw [HKO.out, hw]))
            go_wp2_with fail
            refine (HC.out).mono ?_
            rintro r w1 ⟨rfl, hb1⟩
            have cj2 := (hb1.cell (p := ⟨g, o + i, none⟩) hg2).trans cj1
            go_wp2
            go_roundg (gk - 1)
            case rel => exact ⟨j + 1, by omega, by go_num, HF, ⟨HK.out.below hb1 HB.out.size⟩, ⟨HU.out.below hb1⟩, ⟨up HB.out hb1⟩⟩
            case measure => omega
    · have HR := Keep.mk (show riseK ks = true from (rise_iff ks).2 fun x hx => HO.out x (by omega))
      go_wp2
      go_ret
      exact ⟨by rw [HR.out]; rfl, HB.out⟩
theorem all_take (p : JV → Bool) (l : List JV) (k : Nat) (h : k < l.length) : (l.take (k + 1)).all p = ((l.take k).all p && p l[k]) := by
  rw [List.take_succ_eq_append_getElem h, List.all_append]; simp
theorem all_bad (p : JV → Bool) (l : List JV) (k : Nat) (h : k < l.length) (hf : p l[k] = false) : l.all p = false := by
  rw [List.all_eq_false]
  exact ⟨l[k], List.getElem_mem h, by rw [hf]; simp⟩
set_option maxRecDepth 100000 in
theorem every_may (p : JV → Bool) (l : List JV) (A : Option Addr) (c : Nat) (w : World) (hV : ValsAt w w.heap.size A c l)
    (hc : ∀ j (h : j < l.length) (W : World) (cs : List Value), Below w.heap.size w W → JAt W W.heap.size l[j] cs → Calls Tryz.prog 105 #[.agg cs.toArray] W fun r w' => r = .returned (.bool (p l[j])) ∧ Below W.heap.size W w') :
    Calls Tryz.prog 161 #[.slice A l.length c, .func (.func 105) #[] #[]] w fun r w' => r = .returned (.bool (l.all p)) ∧ Below w.heap.size w w' := by
  have hlc := hV.cap
  have HC := Keep.mk hc
  clear hc
  go_enter Tryz.func161, Tryz.ntmps161
  go_wp2_with fail
  go_loopg [9] l.length (fun gk i wr => ∃ j : Nat, j + gk = l.length ∧ i = .int .i64 j ∧ Keep ((l.take j).all p = true) ∧ Keep (ValsAt wr w.heap.size A c l) ∧ Keep (Below w.heap.size w wr))
  case atStart => exact ⟨0, by omega, rfl, ⟨rfl⟩, ⟨hV⟩, ⟨Below.refl _ _⟩⟩
  case round =>
    clear hV
    obtain ⟨j, hj, rfl, HA, HV, HB⟩ := hrel
    by_cases hlt : j < l.length
    · have hgk : gk ≠ 0 := by omega
      have HS := Keep.mk (all_take p l j hlt)
      have HF := Keep.mk (all_bad p l j hlt)
      obtain ⟨g, o, k1, m1, e1, s1, A1, n1, c1, A2, n2, c2, rfl, hg, hJj, y0, y1, y2, y3, y4, y5⟩ := HV.out.elem j hlt
      have hwl := HB.out.size
      have hg2 : g < wr.heap.size := by omega
      have HCC := Keep.mk (fun o9 => HC.out j hlt (wr.alloc o9) _ (up HB.out (al1 _ _)) ((hJj.more hwl).keep (al1 _ _) (Nat.le_refl _) |>.more (al1 _ _).size))
      clear hJj
      cases hb : p l[j]
      · have HE := Keep.mk (HF.out hb)
        rw [hb] at HCC
        clear hb
        go_wp2_with fail
        refine (HCC.out _).mono ?_
        rintro r w1 ⟨rfl, hb1⟩
        go_wp2
        go_ret
        exact ⟨by rw [HE.out]; rfl, up (up HB.out (al1 _ _)) hb1⟩
      · have HE := Keep.mk (show (l.take (j + 1)).all p = true by rw [HS.out, HA.out, hb]; rfl)
        rw [hb] at HCC
        clear hb
        go_wp2_with fail
        refine (HCC.out _).mono ?_
        rintro r w1 ⟨rfl, hb1⟩
        go_wp2
        go_roundg (gk - 1)
        case rel => exact ⟨j + 1, by omega, by go_num, HE, ⟨HV.out.below (up (al1 wr _) hb1) hwl⟩, ⟨up (up HB.out (al1 _ _)) hb1⟩⟩
        case measure => omega
    · have HE := Keep.mk (show l.all p = true by have := HA.out; rw [List.take_of_length_le (by omega)] at this; exact this)
      go_wp2
      go_ret
      exact ⟨by rw [HE.out]; rfl, HB.out⟩
set_option maxRecDepth 100000 in
theorem every_shallow (p : JV → Bool) (l : List JV) (A : Option Addr) (c : Nat) (a : Addr) (w : World) (hV : ValsAt w w.heap.size A c l)
    (hc : ∀ j (h : j < l.length) (W : World) (cs : List Value), Below w.heap.size w W → JAt W W.heap.size l[j] cs → Calls Tryz.prog 162 #[.agg cs.toArray, .pointer (some a)] W fun r w' => r = .returned (.bool (p l[j])) ∧ Below W.heap.size W w') :
    Calls Tryz.prog 161 #[.slice A l.length c, .func (.func 162) #[] #[.pointer (some a)]] w fun r w' => r = .returned (.bool (l.all p)) ∧ Below w.heap.size w w' := by
  have hlc := hV.cap
  have HC := Keep.mk hc
  clear hc
  go_enter Tryz.func161, Tryz.ntmps161
  go_wp2_with fail
  go_loopg [9] l.length (fun gk i wr => ∃ j : Nat, j + gk = l.length ∧ i = .int .i64 j ∧ Keep ((l.take j).all p = true) ∧ Keep (ValsAt wr w.heap.size A c l) ∧ Keep (Below w.heap.size w wr))
  case atStart => exact ⟨0, by omega, rfl, ⟨rfl⟩, ⟨hV⟩, ⟨Below.refl _ _⟩⟩
  case round =>
    clear hV
    obtain ⟨j, hj, rfl, HA, HV, HB⟩ := hrel
    by_cases hlt : j < l.length
    · have hgk : gk ≠ 0 := by omega
      have HS := Keep.mk (all_take p l j hlt)
      have HF := Keep.mk (all_bad p l j hlt)
      obtain ⟨g, o, k1, m1, e1, s1, A1, n1, c1, A2, n2, c2, rfl, hg, hJj, y0, y1, y2, y3, y4, y5⟩ := HV.out.elem j hlt
      have hwl := HB.out.size
      have hg2 : g < wr.heap.size := by omega
      have HCC := Keep.mk (fun o9 => HC.out j hlt (wr.alloc o9) _ (up HB.out (al1 _ _)) ((hJj.more hwl).keep (al1 _ _) (Nat.le_refl _) |>.more (al1 _ _).size))
      clear hJj
      cases hb : p l[j]
      · have HE := Keep.mk (HF.out hb)
        rw [hb] at HCC
        clear hb
        go_wp2_with fail
        refine (HCC.out _).mono ?_
        rintro r w1 ⟨rfl, hb1⟩
        go_wp2
        go_ret
        exact ⟨by rw [HE.out]; rfl, up (up HB.out (al1 _ _)) hb1⟩
      · have HE := Keep.mk (show (l.take (j + 1)).all p = true by rw [HS.out, HA.out, hb]; rfl)
        rw [hb] at HCC
        clear hb
        go_wp2_with fail
        refine (HCC.out _).mono ?_
        rintro r w1 ⟨rfl, hb1⟩
        go_wp2
        go_roundg (gk - 1)
        case rel => exact ⟨j + 1, by omega, by go_num, HE, ⟨HV.out.below (up (al1 wr _) hb1) hwl⟩, ⟨up (up HB.out (al1 _ _)) hb1⟩⟩
        case measure => omega
    · have HE := Keep.mk (show l.all p = true by have := HA.out; rw [List.take_of_length_le (by omega)] at this; exact this)
      go_wp2
      go_ret
      exact ⟨by rw [HE.out]; rfl, HB.out⟩
theorem depth_all (l : List JV) (d : Nat) : l.all (fun x => decide (depthJ x ≤ d)) = decide (depthL l ≤ d) := by
  induction l with
  | nil => simp [depthL]
  | cons x l ih =>
    rw [List.all_cons, ih, Bool.eq_iff_iff, Bool.and_eq_true, decide_eq_true_eq, decide_eq_true_eq, decide_eq_true_eq]
    simp only [depthL]; omega
set_option maxRecDepth 100000 in
theorem value_shallow : ∀ (n : Nat) (t : JV), countJ t ≤ n → ∀ (left : Nat), left ≤ 1000 → ∀ (w : World) (cs : List Value), JAt w w.heap.size t cs →
    Calls Tryz.prog 104 #[.agg cs.toArray, .int .i64 left] w fun r w' => r = .returned (.bool (decide (depthJ t ≤ left))) ∧ Below w.heap.size w w' := by
  intro n
  induction n with
  | zero => intro t h; cases t; unfold countJ at h; omega
  | succ n ih =>
    intro t hn left hleft w cs hJ
    cases t with
    | mk k m e s l ks =>
      have HJ := Keep.mk hJ
      obtain ⟨A, c, A', c', rfl, hk, hm, he, hs, hK, hV⟩ := hJ.open
      show Calls _ _ #[.agg #[.int .i64 k, .int .i64 m, .int .i64 e, .string s, .slice A l.length c, .slice A' ks.length c'], _] w _
      have hcn := countL_get l
      have hcl : countL l ≤ n := by have : 1 + countL l ≤ n + 1 := hn; omega
      have HD := Keep.mk (show depthJ (.mk k m e s l ks) = 1 + depthL l from rfl)
      by_cases h0 : 0 < left
      · have h02 : (0 : Int) < left := by omega
        have HE := Keep.mk (show l.all (fun x => decide (depthJ x ≤ left - 1)) = decide (depthJ (.mk k m e s l ks) ≤ left) by
          rw [depth_all, HD.out, Bool.eq_iff_iff, decide_eq_true_eq, decide_eq_true_eq]; omega)
        obtain ⟨l1, hl1⟩ : ∃ x : Nat, (left : Int) - 1 = x := ⟨left - 1, by omega⟩
        have hl2 : left - 1 = l1 := by omega
        have HCL := Keep.mk (fun (j : Nat) (h : j < l.length) (W : World) (cs : List Value) (hx : W.cell? ⟨w.heap.size + 1, 0, none⟩ = some (.int .i64 left)) (hJj : JAt W W.heap.size l[j] cs) =>
          show Calls Tryz.prog 162 #[.agg cs.toArray, .pointer (some ⟨w.heap.size + 1, 0, none⟩)] W fun r w' => r = .returned (.bool (decide (depthJ l[j] ≤ left - 1))) ∧ Below W.heap.size W w' by
            have hcj := hcn j h
            have HI := Keep.mk (fun o9 => ih l[j] (by omega) l1 (by omega) (W.alloc o9) cs (hJj.keep (al1 _ _) (Nat.le_refl _) |>.more (al1 _ _).size))
            have hlt := lt_of_cell hx
            have hne : w.heap.size + 1 ≠ W.heap.size := by intro h; rw [h] at hlt; exact Nat.lt_irrefl _ hlt
            rw [hl2]
            cases hlj : l[j] with
            | mk k1 m1 e1 s1 l1' ks1 =>
              rw [hlj] at HI hJj
              obtain ⟨A1, c1, A2, c2, rfl, _⟩ := hJj.open
              show Calls _ _ #[.agg #[.int .i64 k1, .int .i64 m1, .int .i64 e1, .string s1, .slice A1 l1'.length c1, .slice A2 ks1.length c2], _] W _
              clear hJj hlj
              go_enter Tryz.func162, Tryz.ntmps162
              go_wp2_with fail
              refine (HI.out _).mono ?_
              rintro r w1 ⟨rfl, hb1⟩
              go_wp2
              go_ret
              exact ⟨rfl, up (al1 _ _) hb1⟩)
        clear hJ hn
        go_enter Tryz.func104, Tryz.ntmps104
        go_wp2_with fail
        refine calls_world (fun W => ValsAt W W.heap.size A c l ∧ W.cell? ⟨w.heap.size + 1, 0, none⟩ = some (.int .i64 left) ∧ Below w.heap.size w W) ⟨(hV.below (al2 _ _ _) (Nat.le_refl _)).more (al2 _ _ _).size, by simp [go_sem], al2 _ _ _⟩ ?_
        clear hV hK
        rintro W0 ⟨HV, HX, HB⟩
        have hxl := lt_of_cell HX
        refine (every_shallow (fun x => decide (depthJ x ≤ left - 1)) l A c _ W0 HV (fun j h W cs hb hJj => HCL.out j h W cs ((hb.cell hxl).trans HX) hJj)).mono ?_
        rintro r w1 ⟨rfl, hb1⟩
        rw [HE.out]
        replace HB := Keep.mk HB
        clear HX hxl HV
        go_wp2
        go_ret
        exact ⟨rfl, up HB.out hb1⟩
      · have h02 : ¬ (0 : Int) < left := by omega
        have HE := Keep.mk (show decide (depthJ (.mk k m e s l ks) ≤ left) = false by rw [HD.out]; exact decide_eq_false (by omega))
        clear hJ hV hK
        go_enter Tryz.func104, Tryz.ntmps104
        go_wp2
        go_ret
        exact ⟨by rw [HE.out]; rfl, al2 _ _ _⟩
end Go.Proofs.YtnkokhpadcgfbaaGreatDoor
namespace Go.Proofs.YtnkokhpadcgfbaaGreatDoor
open Go Go.RowKit Go.Proofs Th
attribute [local go_sem] Above.cell
structure GlobV (w : World) : Prop where
  num : Glob w
  utf : Utf w
theorem GlobV.below {w w' : World} (h : GlobV w) (b : Below w.heap.size w w') : GlobV w' := ⟨h.num.below b, h.utf.below b⟩
structure GlobW (w : World) : Prop where
  num : GlobP w
  utf : Utf w
theorem GlobW.below {w w' : World} (h : GlobW w) (b : Below w.heap.size w w') : GlobW w' := ⟨h.num.below b, h.utf.below b⟩
theorem GlobW.weak {w : World} (h : GlobW w) : GlobV w := ⟨h.num.weak, h.utf⟩
instance globW_weak (w : World) : Coe (GlobW w) (GlobV w) := ⟨fun h => h.weak⟩
structure One6 (w wr : World) (k m e : Int) (s : ByteArray) (l : List JV) (ks : List ByteArray) (A : Option Addr) (c : Nat) (A' : Option Addr) (c' : Nat) : Prop where
  x : Box wr w.heap.size (cells6 k m e s A l.length c A' ks.length c')
  xv : ValsAt wr wr.heap.size A c l
  xk : StrsAt wr wr.heap.size A' c' ks
  g : GlobV wr
  b : Below w.heap.size w wr
theorem One6.below {w wr w' : World} {k m e : Int} {s : ByteArray} {l : List JV} {ks : List ByteArray} {A : Option Addr} {c : Nat} {A' : Option Addr} {c' : Nat} (h : One6 w wr k m e s l ks A c A' c') (hb : Below wr.heap.size wr w') :
    One6 w w' k m e s l ks A c A' c' :=
  ⟨h.x.below hb h.x.lt, (h.xv.below hb (Nat.le_refl _)).more hb.size, (h.xk.below hb (Nat.le_refl _)).more hb.size, h.g.below hb, up h.b hb⟩
theorem One6.start {w : World} {k m e : Int} {s : ByteArray} {l : List JV} {ks : List ByteArray} {A : Option Addr} {c : Nat} {A' : Option Addr} {c' : Nat} (t : TypeId) (hg : GlobV w) (hV : ValsAt w w.heap.size A c l) (hK : StrsAt w w.heap.size A' c' ks) :
    One6 w (w.alloc (.cells #[.int .i64 k, .int .i64 m, .int .i64 e, .string s, .slice A l.length c, .slice A' ks.length c'] t)) k m e s l ks A c A' c' :=
  ⟨box_new6 .., (hV.below (al1 _ _) (Nat.le_refl _)).more (al1 _ _).size, (hK.below (al1 _ _) (Nat.le_refl _)).more (al1 _ _).size, hg.below (al1 _ _), al1 _ _⟩
theorem all_allL : ∀ l : List JV, l.all allJ = allL l
  | [] => rfl
  | x :: l => by rw [List.all_cons, all_allL l]; rfl
theorem one_bare (k m e : Int) (s : ByteArray) (l : List JV) (ks : List ByteArray) :
    okOne (.mk k m e s l ks) = (bareB k m e s.size l.length ks.length && right m e && Lib.validD s.data.toList && riseK ks && (decide (k ≠ 6) || decide (ks.length = l.length))) := by
  simp only [okOne, bareB]
  generalize right m e = b1
  generalize riseK ks = b2
  generalize Lib.validD s.data.toList = b3
  generalize (decide (k ≠ 6) || decide (ks.length = l.length)) = b4
  cases b1 <;> cases b2 <;> cases b3 <;> cases b4 <;> simp
set_option maxRecDepth 100000 in
set_option maxHeartbeats 1000000 in
theorem value_may : ∀ (n : Nat) (t : JV), countJ t ≤ n → ∀ (w : World) (cs : List Value), GlobV w → JAt w w.heap.size t cs →
    Calls Tryz.prog 105 #[.agg cs.toArray] w fun r w' => r = .returned (.bool (allJ t)) ∧ Below w.heap.size w w' := by
  intro n
  induction n with
  | zero => intro t h; cases t; unfold countJ at h; omega
  | succ n ih =>
    intro t hn w cs hG hJ
    cases t with
    | mk k m e s l ks =>
      obtain ⟨A, c, A', c', rfl, hk, hm, he, hs, hK, hV⟩ := hJ.open
      show Calls _ _ #[.agg #[.int .i64 k, .int .i64 m, .int .i64 e, .string s, .slice A l.length c, .slice A' ks.length c']] w _
      have hcn := countL_get l
      have hcl : countL l ≤ n := by have : 1 + countL l ≤ n + 1 := hn; omega
      have HD := Keep.mk (show allJ (.mk k m e s l ks) = (bareB k m e s.size l.length ks.length && right m e && Lib.validD s.data.toList && riseK ks && (decide (k ≠ 6) || decide (ks.length = l.length)) && allL l) by
        rw [← one_bare]; rfl)
      have hlc := hV.cap
      have hkc := hK.cap
      have HIH := Keep.mk (fun (j : Nat) (h : j < l.length) (W : World) (cs : List Value) (hg : GlobV W) (hj : JAt W W.heap.size l[j] cs) => ih l[j] (by have := hcn j h; omega) W cs hg hj)
      have HO := Keep.mk (One6.start (k := k) (m := m) (e := e) (s := s) 27 hG hV hK)
      clear hJ hV hK hG hn
      go_enter Tryz.func105, Tryz.ntmps105
      go_wp2_with fail
      refine calls_world (fun W => One6 w W k m e s l ks A c A' c') HO.out ?_
      clear HO
      rintro W0 HO
      replace HO := Keep.mk HO
      refine (value_bare k m e s A l.length c A' ks.length c' hlc hkc _).mono ?_
      cases hb1 : bareB k m e s.size l.length ks.length
      case false =>
        have HE := Keep.mk (show allJ (.mk k m e s l ks) = false by rw [HD.out, hb1]; rfl)
        rintro r w1 ⟨rfl, hb⟩
        go_wp2
        go_ret
        exact ⟨by rw [HE.out]; rfl, up HO.out.b hb⟩
      case true =>
      rintro r w1 ⟨rfl, hb⟩
      replace HO := Keep.mk (HO.out.below hb)
      clear hb
      have x1 := HO.out.x.cell 1 _ rfl
      have x2 := HO.out.x.cell 2 _ rfl
      go_wp2_with fail
      refine (num_Right m e hm.lo hm.hi _ HO.out.g.num).mono ?_
      cases hb2 : right m e
      case false =>
        have HE := Keep.mk (show allJ (.mk k m e s l ks) = false by rw [HD.out, hb1, hb2]; rfl)
        rintro r w1 ⟨rfl, hb⟩
        go_wp2
        go_ret
        exact ⟨by rw [HE.out]; rfl, up HO.out.b hb⟩
      case true =>
      rintro r w2 ⟨rfl, hb⟩
      replace HO := Keep.mk (HO.out.below hb)
      clear hb x1 x2
      have x3 := HO.out.x.cell 3 _ rfl
      go_wp2_with fail
      refine (quote_Right s (by omega) _ HO.out.g.utf).mono ?_
      cases hb3 : Lib.validD s.data.toList
      case false =>
        have HE := Keep.mk (show allJ (.mk k m e s l ks) = false by rw [HD.out, hb1, hb2, hb3]; rfl)
        rintro r w1 ⟨rfl, hb⟩
        go_wp2
        go_ret
        exact ⟨by rw [HE.out]; rfl, up HO.out.b hb⟩
      case true =>
      rintro r w3 ⟨rfl, hb⟩
      replace HO := Keep.mk (HO.out.below hb)
      clear hb x3
      have x5 := HO.out.x.cell 5 _ rfl
      go_wp2_with fail
      refine (value_rising ks A' c' _ HO.out.g.utf HO.out.xk).mono ?_
      cases hb4 : riseK ks
      case false =>
        have HE := Keep.mk (show allJ (.mk k m e s l ks) = false by rw [HD.out, hb1, hb2, hb3, hb4]; rfl)
        rintro r w1 ⟨rfl, hb⟩
        go_wp2
        go_ret
        exact ⟨by rw [HE.out]; rfl, up HO.out.b hb⟩
      case true =>
      rintro r w4 ⟨rfl, hb⟩
      replace HO := Keep.mk (HO.out.below hb)
      clear hb x5
      have x0 := HO.out.x.cell 0 _ rfl
      have x4 := HO.out.x.cell 4 _ rfl
      have x5 := HO.out.x.cell 5 _ rfl
      have HEV := Keep.mk (every_may allJ l A c w4 HO.out.xv (fun j h W cs hb hj => HIH.out j h W cs (HO.out.g.below hb) hj))
      rw [all_allL] at HEV
      by_cases hk6 : k = 6
      · by_cases hll : ks.length = l.length
        · have HE := Keep.mk (show allJ (.mk k m e s l ks) = allL l by rw [HD.out, hb1, hb2, hb3, hb4, decide_eq_true hll, Bool.or_true]; rfl)
          have k6 : (k != 6) = false := by simp [hk6]
          have kl : ((ks.length : Int) == (l.length : Int)) = true := by simp [hll]
          clear hk6 hll hb1 hb2 hb3 hb4
          go_wp2_with fail
          refine (HEV.out).mono ?_
          rintro r w5 ⟨rfl, hb⟩
          go_wp2
          go_ret
          exact ⟨by rw [HE.out]; rfl, up HO.out.b hb⟩
        · have HE := Keep.mk (show allJ (.mk k m e s l ks) = false by rw [HD.out, hb1, hb2, hb3, hb4, decide_eq_false hll, decide_eq_false (fun h => h hk6)]; rfl)
          have k6 : (k != 6) = false := by simp [hk6]
          have kl : ((ks.length : Int) == (l.length : Int)) = false := by simp; omega
          clear hk6 hll hb1 hb2 hb3 hb4
          go_wp2
          go_ret
          exact ⟨by rw [HE.out]; rfl, HO.out.b⟩
      · have HE := Keep.mk (show allJ (.mk k m e s l ks) = allL l by rw [HD.out, hb1, hb2, hb3, hb4, decide_eq_true hk6, Bool.true_or]; rfl)
        have k6 : (k != 6) = true := by simp [hk6]
        clear hk6 hb1 hb2 hb3 hb4
        go_wp2_with fail
        refine (HEV.out).mono ?_
        rintro r w5 ⟨rfl, hb⟩
        go_wp2
        go_ret
        exact ⟨by rw [HE.out]; rfl, up HO.out.b hb⟩
set_option maxRecDepth 100000 in
theorem value_Right (t : JV) (w : World) (cs : List Value) (hG : GlobV w) (hJ : JAt w w.heap.size t cs) :
    Calls Tryz.prog 57 #[.agg cs.toArray] w fun r w' => r = .returned (.int .i64 (rightJ t)) ∧ Below w.heap.size w w' := by
  have HJ := Keep.mk hJ
  have HR := Keep.mk (show rightJ t = if 48 < depthJ t then 31 else if allJ t then 0 else 30 from rfl)
  have HC := Keep.mk (value_shallow _ t (Nat.le_refl _) 48 (by omega))
  have HA := Keep.mk (value_may _ t (Nat.le_refl _))
  generalize depthJ t = d at *
  generalize allJ t = b at *
  generalize rightJ t = rr at *
  cases t with
  | mk k m e s l ks =>
    obtain ⟨A, c, A', c', rfl, hk, hm, he, hs, hK, hV⟩ := hJ.open
    show Calls _ _ #[.agg #[.int .i64 k, .int .i64 m, .int .i64 e, .string s, .slice A l.length c, .slice A' ks.length c']] w _
    have HO := Keep.mk (One6.start (k := k) (m := m) (e := e) (s := s) 27 hG hV hK)
    clear hJ hV hK hG
    go_enter Tryz.func57, Tryz.ntmps57
    go_wp2_with fail
    refine calls_world (fun W => One6 w W k m e s l ks A c A' c' ∧ JAt W W.heap.size (.mk k m e s l ks) (cells6 k m e s A l.length c A' ks.length c')) ⟨HO.out, (HJ.out.keep (al1 _ _) (Nat.le_refl _)).more (al1 _ _).size⟩ ?_
    clear HJ HO
    rintro W0 ⟨HO, HJ⟩
    replace HO := Keep.mk HO
    replace HJ := Keep.mk HJ
    refine (HC.out _ _ HJ.out).mono ?_
    rintro r w1 ⟨rfl, hb1⟩
    replace HO := Keep.mk (HO.out.below hb1)
    replace HJ := Keep.mk ((HJ.out.keep hb1 (Nat.le_refl _)).more hb1.size)
    clear hb1
    by_cases hd : 48 < d
    · have HE := Keep.mk (show rr = 31 by rw [HR.out, if_pos hd])
      rw [decide_eq_false (show ¬ d ≤ 48 by omega)]
      clear HR hd
      go_wp2
      go_ret
      exact ⟨by rw [HE.out]; rfl, HO.out.b⟩
    · rw [decide_eq_true (show d ≤ 48 by omega)]
      have x0 := HO.out.x.cell 0 _ rfl
      have x1 := HO.out.x.cell 1 _ rfl
      have x2 := HO.out.x.cell 2 _ rfl
      have x3 := HO.out.x.cell 3 _ rfl
      have x4 := HO.out.x.cell 4 _ rfl
      have x5 := HO.out.x.cell 5 _ rfl
      go_wp2_with fail
      refine (HA.out _ _ HO.out.g HJ.out).mono ?_
      cases b
      · have HE := Keep.mk (show rr = 30 by rw [HR.out, if_neg hd]; rfl)
        clear HR hd
        rintro r w2 ⟨rfl, hb2⟩
        go_wp2
        go_ret
        exact ⟨by rw [HE.out]; rfl, up HO.out.b hb2⟩
      · have HE := Keep.mk (show rr = 0 by rw [HR.out, if_neg hd]; rfl)
        clear HR hd
        rintro r w2 ⟨rfl, hb2⟩
        go_wp2
        go_ret
        exact ⟨by rw [HE.out]; rfl, up HO.out.b hb2⟩
end Go.Proofs.YtnkokhpadcgfbaaGreatDoor
