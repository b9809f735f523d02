/- Lemmas and contracts for the laws SyntaxPieces, part 11 of 48: RefForm, RefMathB. Conditions: those that each lemma names. -/
import Derived.Test.YtinknjhclpaieaaGreatDoorPq8
import Derived.Test.YtinknjhclpaieaaGreatDoorPq2
import Derived.Deep.CutBlock
import Derived.Deep.DeepCutAuto
set_option maxRecDepth 100000
set_option maxHeartbeats 4000000
namespace Go.Proofs.YtinknjhclpaieaaGreatDoor
open Go Go.RowKit Go.Proofs Th
theorem dEnd_step (s : ByteArray) (i : Nat) (h : i < s.size) : dEnd s.data.toList i = if digB s[i] then dEnd s.data.toList (i + 1) else i := by
  unfold dEnd; rw [drop_at s i h, nDig]; unfold digB; by_cases h1 : 48 ≤ s[i].toNat ∧ s[i].toNat ≤ 57
  · rw [if_pos h1, if_pos (by simpa using h1)]; omega
  rw [if_neg h1, if_neg (by simpa using h1)]; rfl
def formR (l : List UInt8) : Value :=
  if bad1 l ∨ bad2 l ∨ bad3 l then .tuple #[.int .i64 0, .int .i64 0, .bool false] else .tuple #[.int .i64 (wP l), .int .i64 (fP l), .bool (decide (gP l = l.length))]
theorem get_at (s : ByteArray) (i : Nat) (h : i < s.size) : s.data.toList[i]? = some s[i] := by
  rw [List.getElem?_eq_getElem (by simpa using h)]; rfl
theorem get_end (s : ByteArray) (i : Nat) (h : ¬ i < s.size) : s.data.toList[i]? = none := List.getElem?_eq_none (by simpa using h)
theorem ref_Form (s : ByteArray) (hs : s.size ≤ 9223372036854775000) (w : World) : Calls Tryz.prog 138 #[.string s] w fun r w' => r = .returned (formR s.data.toList) ∧ Below w.heap.size w w' := by
  have HO := Keep.mk (show offP s.data.toList = if s.data.toList[0]? = some 45 then 1 else 0 by unfold offP; cases s.data.toList <;> rfl); go_enter Tryz.func138, Tryz.ntmps138
  go_upto_region 2 with fail
  go_cut [18] (fun s18 wx => s18 = .bool (decide (offP s.data.toList = 1)) ∧ Keep (offP s.data.toList ≤ 1 ∧ offP s.data.toList ≤ s.size) ∧ w = wx)
  case first =>
    by_cases h0 : 0 < s.size
    · by_cases h1 : s[0].toNat = 45
      · have hb : ((s[0].toNat : Int) == 45) = true := by simp [h1]
        have hc : s[0] = 45 := UInt8.toNat.inj h1; have HE := Keep.mk (show offP s.data.toList = 1 by rw [HO.out, get_at s 0 h0, hc]; rfl); clear hc; go_wp2_with fail
        go_meet
        exact ⟨by rw [HE.out]; rfl, ⟨by rw [HE.out]; omega⟩, rfl⟩
      have hb : ((s[0].toNat : Int) == 45) = false := by simp; omega
      have hc : s[0] ≠ 45 := fun h => h1 (by rw [h]; rfl)
      have HE := Keep.mk (show offP s.data.toList = 0 by rw [HO.out, get_at s 0 h0, if_neg (by simpa using hc)]); clear hc; go_wp2_with fail
      go_meet
      exact ⟨by rw [HE.out]; rfl, ⟨by rw [HE.out]; omega⟩, rfl⟩
    have HE := Keep.mk (show offP s.data.toList = 0 by rw [HO.out, get_end s 0 h0]; rfl); go_wp2_with fail
    go_meet
    exact ⟨by rw [HE.out]; rfl, ⟨by rw [HE.out]; omega⟩, rfl⟩
  case rest =>
    obtain ⟨rfl, HOL, rfl⟩ := hcut; generalize hof : offP s.data.toList = f0 at *; have HOF := Keep.mk hof; clear hof; go_upto_if 18 with fail
    go_cut [5] (fun s5 wx => s5 = .int .i64 f0 ∧ w = wx)
    case first =>
      have h1 := HOL.out.1; have h2 : f0 = 0 ∨ f0 = 1 := by omega
      rcases h2 with rfl | rfl
      all_goals
        go_wp2_with fail
        go_meet
        exact ⟨rfl, rfl⟩
    case rest =>
      obtain ⟨rfl, rfl⟩ := hcut; have HA : Keep (f0 ≤ s.size) := ⟨HOL.out.2⟩; have HW : Keep (Below w.heap.size w w) := ⟨Below.refl _ _⟩; go_upto_block 0 with fail
      go_cut [5] (fun s5 wx => s5 = .int .i64 (dEnd s.data.toList f0) ∧ Keep (f0 ≤ dEnd s.data.toList f0 ∧ dEnd s.data.toList f0 ≤ s.size) ∧ Keep (Below w.heap.size w wx))
      case first =>
        have hal := HA.out; go_wp2_with fail
        go_loopg [5] (s.size - f0) (fun gk i wr => ∃ k : Nat, i = .int .i64 k ∧ k + gk = s.size ∧ Keep (dEnd s.data.toList k = dEnd s.data.toList f0) ∧ Keep (Below w.heap.size w wr))
        case atStart => exact ⟨f0, rfl, by omega, ⟨rfl⟩, HW⟩
        case round =>
          obtain ⟨k, rfl, hk, HD, HWR⟩ := hrel; by_cases hlt : k < s.size
          · have HS := Keep.mk (dEnd_step s k hlt)
            have HC := Keep.mk (fun w => ref_digit s[k] w); have hgk : gk ≠ 0 := by omega
            cases hd : digB s[k]
            · have HE := Keep.mk (show dEnd s.data.toList f0 = k by rw [← HD.out, HS.out, hd]; rfl)
              go_wp2_with fail
              refine (HC.out _).mono ?_; rw [hd]; rintro r w1 ⟨rfl, hb1⟩; go_wp2_with fail
              go_meet
              have hle := dEnd_le s.data.toList f0 (by simpa using HA.out); exact ⟨by rw [HE.out], ⟨hle.1, by simpa using hle.2⟩, ⟨up HWR.out hb1⟩⟩
            have HE := Keep.mk (show dEnd s.data.toList (k + 1) = dEnd s.data.toList f0 by rw [← HD.out, HS.out, hd]; rfl); go_wp2_with fail
            refine (HC.out _).mono ?_; rw [hd]; rintro r w1 ⟨rfl, hb1⟩; go_wp2
            go_roundg (gk - 1)
            case rel => exact ⟨k + 1, by go_num, by omega, HE, ⟨up HWR.out hb1⟩⟩
            case measure => omega
          have hks : k = s.size := by omega
          have HE := Keep.mk (show dEnd s.data.toList f0 = k by rw [← HD.out, hks]; have := dEnd_end s.data.toList; simpa using this); go_wp2_with fail
          go_meet
          have hle := dEnd_le s.data.toList f0 (by simpa using HA.out); exact ⟨by rw [HE.out], ⟨hle.1, by simpa using hle.2⟩, HWR⟩
      case rest =>
        clear HA HW; obtain ⟨rfl, Hp1, HW⟩ := hcut; generalize hp1 : dEnd s.data.toList f0 = p1 at *; have Hp1E := Keep.mk hp1; clear hp1; have HB := Keep.mk (show bad1 s.data.toList ↔ (p1 = f0 ∨ (f0 + 1 < p1 ∧ s.data.toList[f0]? = some 48)) by unfold bad1 wP; rw [HOF.out, Hp1E.out]); have HBAD : Keep (bad1 s.data.toList → formR s.data.toList = .tuple #[.int .i64 0, .int .i64 0, .bool false]) := ⟨fun h => by unfold formR; rw [if_pos (Or.inl h)]⟩; have h1 := Hp1.out.1; have h2 := Hp1.out.2; go_upto_region 7 with fail
        go_cut [48] (fun s48 wx => s48 = .bool (decide (bad1 s.data.toList)) ∧ Keep (Below w.heap.size w wx))
        case first =>
          by_cases hb1 : p1 = f0
          · have HX := Keep.mk (decide_eq_true (HB.out.2 (Or.inl hb1)))
            have hbb : ((p1 : Int) == f0) = true := by simp [hb1]
            clear hb1; go_wp2_with fail
            go_meet
            exact ⟨by rw [HX.out], HW⟩
          have hbb : ((p1 : Int) == f0) = false := by simp; omega
          by_cases hb2 : f0 + 1 < p1
          · have hf0 : f0 < s.size := by omega
            by_cases hb3 : s[f0].toNat = 48
            · have HX := Keep.mk (decide_eq_true (HB.out.2 (Or.inr ⟨hb2, by rw [get_at s f0 hf0]; congr 1; exact UInt8.toNat.inj hb3⟩)))
              have hbc : ((s[f0].toNat : Int) == 48) = true := by simp [hb3]
              clear hb1 hb3; go_wp2_with fail
              go_meet
              exact ⟨by rw [HX.out], HW⟩
            have hbc : ((s[f0].toNat : Int) == 48) = false := by simp; omega
            have HX := Keep.mk (decide_eq_false (fun h => by
              rcases HB.out.1 h with h | ⟨_, h⟩
              · exact hb1 h
              rw [get_at s f0 hf0] at h; injection h with h; exact hb3 (by rw [h]; rfl)))
            clear hb1 hb3; go_wp2_with fail
            go_meet
            exact ⟨by rw [HX.out], HW⟩
          have HX := Keep.mk (decide_eq_false (fun h => by
            rcases HB.out.1 h with h | ⟨h, _⟩
            · exact hb1 h
            exact hb2 h))
          clear hb1; go_wp2_with fail
          go_meet
          exact ⟨by rw [HX.out], HW⟩
        case rest =>
          clear HW; obtain ⟨rfl, HW⟩ := hcut; by_cases hb : bad1 s.data.toList
          · have HX := Keep.mk (HBAD.out hb)
            rw [decide_eq_true hb]; go_wp2_with fail
            go_ret3
            exact ⟨by rw [HX.out]; rfl, HW.out⟩
          rw [decide_eq_false hb]; have HNB := Keep.mk hb; clear hb HB HBAD; go_upto_region 10 with fail
          go_cut [59] (fun sx wx => sx = .bool (decide (s.data.toList[p1]? = some 46)) ∧ Keep (Below w.heap.size w wx))
          case first =>
            by_cases hlt : p1 < s.size
            · by_cases hbx : s[p1].toNat = 46
              · have hbc : ((s[p1].toNat : Int) == 46) = true := by simp [hbx]
                have HX := Keep.mk (decide_eq_true (show s.data.toList[p1]? = some 46 by rw [get_at s _ hlt]; congr 1; exact UInt8.toNat.inj hbx)); clear hbx; go_wp2_with fail
                go_meet
                exact ⟨by rw [HX.out], HW⟩
              have hbc : ((s[p1].toNat : Int) == 46) = false := by simp; omega
              have HX := Keep.mk (decide_eq_false (show ¬ s.data.toList[p1]? = some 46 by intro h; rw [get_at s _ hlt] at h; injection h with h; exact hbx (by rw [h]; rfl))); clear hbx; go_wp2_with fail
              go_meet
              exact ⟨by rw [HX.out], HW⟩
            have HX := Keep.mk (decide_eq_false (show ¬ s.data.toList[p1]? = some 46 by rw [get_end s _ hlt]; simp)); go_wp2_with fail
            go_meet
            exact ⟨by rw [HX.out], HW⟩
          case rest =>
            clear HW; obtain ⟨rfl, HW⟩ := hcut; go_upto_if 59 with fail
            go_cut [5] (fun s5 wx => ∃ f : Nat, s5 = .int .i64 f ∧ Keep (fP s.data.toList = f ∧ p1 ≤ f ∧ f ≤ s.size ∧ ¬ bad2 s.data.toList) ∧ Keep (Below w.heap.size w wx))
            case first =>
              by_cases hdot : s.data.toList[p1]? = some 46
              · rw [decide_eq_true hdot]
                have hlt1 : p1 < s.size := by
                  rcases Nat.lt_or_ge p1 s.size with h | h
                  · exact h
                  rw [get_end s p1 (by omega)] at hdot; cases hdot
                have HFP := Keep.mk (show fP s.data.toList = dEnd s.data.toList (p1 + 1) by unfold fP wP; rw [HOF.out, Hp1E.out, if_pos hdot]); have HB2 := Keep.mk (show bad2 s.data.toList ↔ fP s.data.toList = p1 + 1 by unfold bad2 wP; rw [HOF.out, Hp1E.out]; exact ⟨fun h => h.2, fun h => ⟨hdot, h⟩⟩); have HA : Keep (p1 + 1 ≤ s.size) := ⟨by omega⟩; clear hdot; go_upto_block 2 with fail
                go_cut [5] (fun s5 wx => s5 = .int .i64 (dEnd s.data.toList (p1 + 1)) ∧ Keep ((p1 + 1) ≤ dEnd s.data.toList (p1 + 1) ∧ dEnd s.data.toList (p1 + 1) ≤ s.size) ∧ Keep (Below w.heap.size w wx))
                case first =>
                  have hal := HA.out; go_wp2_with fail
                  go_loopg [5] (s.size - (p1 + 1)) (fun gk i wr => ∃ k : Nat, i = .int .i64 k ∧ k + gk = s.size ∧ Keep (dEnd s.data.toList k = dEnd s.data.toList (p1 + 1)) ∧ Keep (Below w.heap.size w wr))
                  case atStart => exact ⟨(p1 + 1), rfl, by omega, ⟨rfl⟩, HW⟩
                  case round =>
                    obtain ⟨k, rfl, hk, HD, HWR⟩ := hrel; by_cases hlt : k < s.size
                    · have HS := Keep.mk (dEnd_step s k hlt)
                      have HC := Keep.mk (fun w => ref_digit s[k] w); have hgk : gk ≠ 0 := by omega
                      cases hd : digB s[k]
                      · have HE := Keep.mk (show dEnd s.data.toList (p1 + 1) = k by rw [← HD.out, HS.out, hd]; rfl)
                        go_wp2_with fail
                        refine (HC.out _).mono ?_; rw [hd]; rintro r w1 ⟨rfl, hb1⟩; go_wp2_with fail
                        go_meet
                        have hle := dEnd_le s.data.toList (p1 + 1) (by simpa using HA.out); exact ⟨by rw [HE.out], ⟨hle.1, by simpa using hle.2⟩, ⟨up HWR.out hb1⟩⟩
                      have HE := Keep.mk (show dEnd s.data.toList (k + 1) = dEnd s.data.toList (p1 + 1) by rw [← HD.out, HS.out, hd]; rfl); go_wp2_with fail
                      refine (HC.out _).mono ?_; rw [hd]; rintro r w1 ⟨rfl, hb1⟩; go_wp2
                      go_roundg (gk - 1)
                      case rel => exact ⟨k + 1, by go_num, by omega, HE, ⟨up HWR.out hb1⟩⟩
                      case measure => omega
                    have hks : k = s.size := by omega
                    have HE := Keep.mk (show dEnd s.data.toList (p1 + 1) = k by rw [← HD.out, hks]; have := dEnd_end s.data.toList; simpa using this); go_wp2_with fail
                    go_meet
                    have hle := dEnd_le s.data.toList (p1 + 1) (by simpa using HA.out); exact ⟨by rw [HE.out], ⟨hle.1, by simpa using hle.2⟩, HWR⟩
                case rest =>
                  clear HA HW; obtain ⟨rfl, Hp2, HW⟩ := hcut; generalize hp2 : dEnd s.data.toList (p1 + 1) = p2 at *; have Hp2E := Keep.mk hp2; clear hp2; by_cases hb2 : p2 = p1 + 1
                  · have HX := Keep.mk (show formR s.data.toList = .tuple #[.int .i64 0, .int .i64 0, .bool false] by unfold formR; rw [if_pos (Or.inr (Or.inl (HB2.out.2 (HFP.out.trans hb2))))])
                    have hbb : ((p2 : Int) == (p1 : Int) + 1) = true := by simp; omega
                    clear hb2; go_wp2_with fail
                    go_ret3
                    exact ⟨by rw [HX.out]; rfl, HW.out⟩
                  have hbb : ((p2 : Int) == (p1 : Int) + 1) = false := by simp; omega
                  have HX := Keep.mk (show ¬ bad2 s.data.toList from fun h => hb2 (HFP.out.symm.trans (HB2.out.1 h))); clear hb2; go_wp2_with fail
                  go_meet
                  exact ⟨p2, rfl, ⟨HFP.out, by have := Hp2.out; omega, Hp2.out.2, HX.out⟩, HW⟩
              rw [decide_eq_false hdot]; have HFP := Keep.mk (show fP s.data.toList = p1 by unfold fP wP; rw [HOF.out, Hp1E.out, if_neg hdot]); have HX := Keep.mk (show ¬ bad2 s.data.toList by unfold bad2 wP; rw [HOF.out, Hp1E.out]; exact fun h => hdot h.1); clear hdot; go_wp2_with fail
              go_meet
              exact ⟨p1, rfl, ⟨HFP.out, Nat.le_refl _, h2, HX.out⟩, HW⟩
            case rest =>
              clear HW; obtain ⟨p3, rfl, Hp3, HW⟩ := hcut; have HIE := Keep.mk (show isE s.data.toList ↔ (s.data.toList[p3]? = some 101 ∨ s.data.toList[p3]? = some 69) by unfold isE; rw [Hp3.out.1]); go_upto_region 17 with fail
              go_cut [94] (fun sx wx => sx = .bool (decide (isE s.data.toList)) ∧ Keep (Below w.heap.size w wx))
              case first =>
                by_cases hlt : p3 < s.size
                · by_cases ha : s[p3].toNat = 101
                  · have hbc : ((s[p3].toNat : Int) == 101) = true := by simp [ha]
                    have HX := Keep.mk (decide_eq_true (HIE.out.2 (Or.inl (by rw [get_at s _ hlt]; congr 1; exact UInt8.toNat.inj ha)))); clear ha; go_wp2_with fail
                    go_meet
                    exact ⟨by rw [HX.out], HW⟩
                  have hbc : ((s[p3].toNat : Int) == 101) = false := by simp; omega
                  by_cases hb : s[p3].toNat = 69
                  · have hbd : ((s[p3].toNat : Int) == 69) = true := by simp [hb]
                    have HX := Keep.mk (decide_eq_true (HIE.out.2 (Or.inr (by rw [get_at s _ hlt]; congr 1; exact UInt8.toNat.inj hb)))); clear ha hb; go_wp2_with fail
                    go_meet
                    exact ⟨by rw [HX.out], HW⟩
                  have hbd : ((s[p3].toNat : Int) == 69) = false := by simp; omega
                  have HX := Keep.mk (decide_eq_false (fun h => by
                    rcases HIE.out.1 h with h | h <;> (rw [get_at s _ hlt] at h; injection h with h)
                    · exact ha (by rw [h]; rfl)
                    exact hb (by rw [h]; rfl)))
                  clear ha hb; go_wp2_with fail
                  go_meet
                  exact ⟨by rw [HX.out], HW⟩
                have HX := Keep.mk (decide_eq_false (fun h => by rcases HIE.out.1 h with h | h <;> (rw [get_end s _ hlt] at h; cases h))); go_wp2_with fail
                go_meet
                exact ⟨by rw [HX.out], HW⟩
              case rest =>
                clear HW; obtain ⟨rfl, HW⟩ := hcut; go_upto_if 94 with fail
                go_cut [5] (fun s5 wx => ∃ g : Nat, s5 = .int .i64 g ∧ Keep (gP s.data.toList = g ∧ g ≤ s.size ∧ ¬ bad3 s.data.toList) ∧ Keep (Below w.heap.size w wx))
                case first =>
                  by_cases hE : isE s.data.toList
                  · rw [decide_eq_true hE]
                    have hlt3 : p3 < s.size := by
                      rcases Nat.lt_or_ge p3 s.size with h | h
                      · exact h
                      rcases HIE.out.1 hE with h2 | h2 <;> (rw [get_end s p3 (by omega)] at h2; cases h2)
                    have HGP := Keep.mk (show gP s.data.toList = dEnd s.data.toList (bP s.data.toList) by unfold gP; rw [if_pos hE]); have HB3 := Keep.mk (show bad3 s.data.toList ↔ gP s.data.toList = bP s.data.toList by unfold bad3; exact ⟨fun h => h.2, fun h => ⟨hE, h⟩⟩); have HBP := Keep.mk (show bP s.data.toList = if s.data.toList[p3 + 1]? = some 43 ∨ s.data.toList[p3 + 1]? = some 45 then p3 + 2 else p3 + 1 by unfold bP; rw [Hp3.out.1]); clear hE; go_upto_region 19 with fail
                    go_cut [112] (fun sx wx => sx = .bool (decide (s.data.toList[p3 + 1]? = some 43 ∨ s.data.toList[p3 + 1]? = some 45)) ∧ Keep (Below w.heap.size w wx))
                    case first =>
                      by_cases hlt : p3 + 1 < s.size
                      · by_cases ha : s[p3 + 1].toNat = 43
                        · have hbc : ((s[p3 + 1].toNat : Int) == 43) = true := by simp [ha]
                          have HX := Keep.mk (decide_eq_true (show s.data.toList[p3 + 1]? = some 43 ∨ s.data.toList[p3 + 1]? = some 45 from Or.inl (by rw [get_at s _ hlt]; congr 1; exact UInt8.toNat.inj ha))); clear ha; go_wp2_with fail
                          go_meet
                          exact ⟨by rw [HX.out], HW⟩
                        have hbc : ((s[p3 + 1].toNat : Int) == 43) = false := by simp; omega
                        by_cases hb : s[p3 + 1].toNat = 45
                        · have hbd : ((s[p3 + 1].toNat : Int) == 45) = true := by simp [hb]
                          have HX := Keep.mk (decide_eq_true (show s.data.toList[p3 + 1]? = some 43 ∨ s.data.toList[p3 + 1]? = some 45 from Or.inr (by rw [get_at s _ hlt]; congr 1; exact UInt8.toNat.inj hb))); clear ha hb; go_wp2_with fail
                          go_meet
                          exact ⟨by rw [HX.out], HW⟩
                        have hbd : ((s[p3 + 1].toNat : Int) == 45) = false := by simp; omega
                        have HX := Keep.mk (decide_eq_false (show ¬ (s.data.toList[p3 + 1]? = some 43 ∨ s.data.toList[p3 + 1]? = some 45) from fun h => by
                          rcases h with h | h <;> (rw [get_at s _ hlt] at h; injection h with h)
                          · exact ha (by rw [h]; rfl)
                          exact hb (by rw [h]; rfl)))
                        clear ha hb; go_wp2_with fail
                        go_meet
                        exact ⟨by rw [HX.out], HW⟩
                      have HX := Keep.mk (decide_eq_false (show ¬ (s.data.toList[p3 + 1]? = some 43 ∨ s.data.toList[p3 + 1]? = some 45) from fun h => by rcases h with h | h <;> (rw [get_end s _ hlt] at h; cases h))); go_wp2_with fail
                      go_meet
                      exact ⟨by rw [HX.out], HW⟩
                    case rest =>
                      clear HW; obtain ⟨rfl, HW⟩ := hcut; go_upto_if 112 with fail
                      go_cut [5] (fun s5 wx => ∃ q : Nat, s5 = .int .i64 q ∧ Keep (bP s.data.toList = q) ∧ Keep (q ≤ s.size) ∧ Keep (Below w.heap.size w wx))
                      case first =>
                        by_cases hsg : s.data.toList[p3 + 1]? = some 43 ∨ s.data.toList[p3 + 1]? = some 45
                        · have HX := Keep.mk (show bP s.data.toList = p3 + 2 by rw [HBP.out, if_pos hsg])
                          have hlt4 : p3 + 1 < s.size := by
                            rcases Nat.lt_or_ge (p3 + 1) s.size with h | h
                            · exact h
                            rcases hsg with h2 | h2 <;> (rw [get_end s _ (by omega)] at h2; cases h2)
                          rw [decide_eq_true hsg]; clear hsg; go_wp2_with fail
                          go_meet
                          exact ⟨p3 + 2, by go_num, HX, ⟨by omega⟩, HW⟩
                        have HX := Keep.mk (show bP s.data.toList = p3 + 1 by rw [HBP.out, if_neg hsg]); rw [decide_eq_false hsg]; clear hsg; go_wp2_with fail
                        go_meet
                        exact ⟨p3 + 1, by go_num, HX, ⟨by omega⟩, HW⟩
                      case rest =>
                        clear HW; obtain ⟨p4, rfl, Hp4, HA, HW⟩ := hcut; go_upto_block 4 with fail
                        go_cut [5] (fun s5 wx => s5 = .int .i64 (dEnd s.data.toList p4) ∧ Keep (p4 ≤ dEnd s.data.toList p4 ∧ dEnd s.data.toList p4 ≤ s.size) ∧ Keep (Below w.heap.size w wx))
                        case first =>
                          have hal := HA.out; go_wp2_with fail
                          go_loopg [5] (s.size - p4) (fun gk i wr => ∃ k : Nat, i = .int .i64 k ∧ k + gk = s.size ∧ Keep (dEnd s.data.toList k = dEnd s.data.toList p4) ∧ Keep (Below w.heap.size w wr))
                          case atStart => exact ⟨p4, rfl, by omega, ⟨rfl⟩, HW⟩
                          case round =>
                            obtain ⟨k, rfl, hk, HD, HWR⟩ := hrel; by_cases hlt : k < s.size
                            · have HS := Keep.mk (dEnd_step s k hlt)
                              have HC := Keep.mk (fun w => ref_digit s[k] w); have hgk : gk ≠ 0 := by omega
                              cases hd : digB s[k]
                              · have HE := Keep.mk (show dEnd s.data.toList p4 = k by rw [← HD.out, HS.out, hd]; rfl)
                                go_wp2_with fail
                                refine (HC.out _).mono ?_; rw [hd]; rintro r w1 ⟨rfl, hb1⟩; go_wp2_with fail
                                go_meet
                                have hle := dEnd_le s.data.toList p4 (by simpa using HA.out); exact ⟨by rw [HE.out], ⟨hle.1, by simpa using hle.2⟩, ⟨up HWR.out hb1⟩⟩
                              have HE := Keep.mk (show dEnd s.data.toList (k + 1) = dEnd s.data.toList p4 by rw [← HD.out, HS.out, hd]; rfl); go_wp2_with fail
                              refine (HC.out _).mono ?_; rw [hd]; rintro r w1 ⟨rfl, hb1⟩; go_wp2
                              go_roundg (gk - 1)
                              case rel => exact ⟨k + 1, by go_num, by omega, HE, ⟨up HWR.out hb1⟩⟩
                              case measure => omega
                            have hks : k = s.size := by omega
                            have HE := Keep.mk (show dEnd s.data.toList p4 = k by rw [← HD.out, hks]; have := dEnd_end s.data.toList; simpa using this); go_wp2_with fail
                            go_meet
                            have hle := dEnd_le s.data.toList p4 (by simpa using HA.out); exact ⟨by rw [HE.out], ⟨hle.1, by simpa using hle.2⟩, HWR⟩
                        case rest =>
                          clear HA HW; obtain ⟨rfl, Hp5, HW⟩ := hcut; generalize hp5 : dEnd s.data.toList p4 = p5 at *; have Hp5E := Keep.mk hp5; clear hp5; by_cases hb3 : p5 = p4
                          · have HX := Keep.mk (show formR s.data.toList = .tuple #[.int .i64 0, .int .i64 0, .bool false] by unfold formR; rw [if_pos (Or.inr (Or.inr (HB3.out.2 (by rw [HGP.out, Hp4.out, Hp5E.out]; exact hb3))))])
                            have hbb : ((p5 : Int) == (p4 : Int)) = true := by simp; omega
                            clear hb3; go_wp2_with fail
                            go_ret3
                            exact ⟨by rw [HX.out]; rfl, HW.out⟩
                          have hbb : ((p5 : Int) == (p4 : Int)) = false := by simp; omega
                          have HX := Keep.mk (show ¬ bad3 s.data.toList from fun h => hb3 (by have := HB3.out.1 h; rw [HGP.out, Hp4.out, Hp5E.out] at this; exact this)); clear hb3; go_wp2_with fail
                          go_meet
                          exact ⟨p5, rfl, ⟨by rw [HGP.out, Hp4.out, Hp5E.out], Hp5.out.2, HX.out⟩, HW⟩
                  rw [decide_eq_false hE]; have HX := Keep.mk (show gP s.data.toList = p3 ∧ ¬ bad3 s.data.toList from ⟨by unfold gP; rw [if_neg hE, Hp3.out.1], fun h => hE h.1⟩); clear hE; go_wp2_with fail
                  go_meet
                  exact ⟨p3, rfl, ⟨HX.out.1, Hp3.out.2.2.1, HX.out.2⟩, HW⟩
                case rest =>
                  clear HW; obtain ⟨g5, rfl, Hg5, HW⟩ := hcut; have HX := Keep.mk (show formR s.data.toList = .tuple #[.int .i64 p1, .int .i64 p3, .bool (decide (g5 = s.size))] by
                    unfold formR; rw [if_neg (by rintro (h | h | h); exact HNB.out h; exact Hp3.out.2.2.2 h; exact Hg5.out.2.2 h), Hg5.out.1, Hp3.out.1, show wP s.data.toList = p1 by unfold wP; rw [HOF.out, Hp1E.out]]; simp)
                  have h5 : g5 ≤ s.size := Hg5.out.2.1; by_cases hge : g5 = s.size
                  · have hbb : ((g5 : Int) == (s.size : Int)) = true := by simp [hge]
                    have HY := Keep.mk (decide_eq_true hge); clear hge; go_wp2_with fail
                    go_ret3
                    exact ⟨by rw [HX.out, HY.out]; rfl, HW.out⟩
                  have hbb : ((g5 : Int) == (s.size : Int)) = false := by simp; omega
                  have HY := Keep.mk (decide_eq_false hge); clear hge; go_wp2_with fail
                  go_ret3
                  exact ⟨by rw [HX.out, HY.out]; rfl, HW.out⟩
open Go Go.RowKit Go.Proofs Th
theorem norm_high (neg : Bool) (m : Nat) (e : Int) (h : 64 < e) : norm neg m e = if m = 0 then ((0, 0), 0) else ((0, 0), 11) := by
  by_cases hm : m = 0
  · rw [if_pos hm, hm]; rfl
  rw [if_neg hm]; obtain ⟨a, k, ha, hk⟩ := exists_form m hm; rw [hk, norm_of _ _ _ _ ha]; unfold fin; rw [if_pos (by omega)]
theorem norm_low (neg : Bool) (m n : Nat) (e : Int) (hlt : m < 10 ^ n) (h : e + n < -64) : norm neg m e = if m = 0 then ((0, 0), 0) else ((0, 0), 11) := by
  by_cases hm : m = 0
  · rw [if_pos hm, hm]; rfl
  rw [if_neg hm]; obtain ⟨a, k, ha, hk⟩ := exists_form m hm; have h1 : 1 * 10 ^ k ≤ a * 10 ^ k := Nat.mul_le_mul_right _ (by omega); have h2 : 10 ^ k < 10 ^ n := by omega
  have h3 := (Nat.pow_lt_pow_iff_right (by omega : 1 < 10)).1 h2; rw [hk, norm_of _ _ _ _ ha]; unfold fin; rw [if_pos (by omega)]
theorem powN_clamp (r : List UInt8) (h : AllDig r.reverse) : (powN r.reverse = clampN r.reverse ∧ powN r.reverse < 1000000) ∨ (1000000 ≤ powN r.reverse ∧ 1000000 ≤ clampN r.reverse) := by
  induction r with
  | nil => left; exact ⟨rfl, by decide⟩
  | cons c r ih =>
    rw [List.reverse_cons] at h ⊢; have hr : AllDig r.reverse := fun d hd => h d (by simp at hd ⊢; left; exact hd)
    have hc := h c (by simp); rw [powN_snoc, clampN_snoc]; have hb : digB c = true := by unfold digB; simp; exact hc
    have hle := clampN_le r.reverse; have hd : dg c ≤ 9 := by unfold dg; omega
    unfold powS; rw [hb]; rcases ih hr with ⟨h1, h2⟩ | ⟨h1, h2⟩
    · rw [if_pos (by simpa using h2)]
      omega
    rw [if_neg (by simp; omega)]; omega
theorem powN_cl (l : List UInt8) (h : AllDig l) : (powN l = clampN l ∧ powN l < 1000000) ∨ (1000000 ≤ powN l ∧ 1000000 ≤ clampN l) := by
  have := powN_clamp l.reverse (by rwa [List.reverse_reverse]); rwa [List.reverse_reverse] at this
theorem powN_skip (c : UInt8) (l : List UInt8) (h : digB c = false) : powN (c :: l) = powN l := by
  show l.foldl powS (powS 0 c) = l.foldl powS 0
  unfold powS; rw [h]; rfl
theorem negB_dig (l : List UInt8) (h : AllDig l) : negB l = false := by
  unfold negB; rw [List.any_eq_false]; intro c hc; have := h c hc; simp; rintro rfl; exact absurd this.1 (by decide)
theorem chkE_dig {neg en : Bool} {u x : List UInt8} (h : chkE neg u = some (en, x)) : en = neg ∧ x = u ∧ AllDig u := by
  unfold chkE at h; split at h
  · cases h
  rename_i h2
  injection h with h; injection h with h3 h4; refine ⟨h3.symm, h4.symm, ?_⟩; have := nDig_le u; have h5 := allDig_take u; rwa [List.take_of_length_le (by omega)] at h5
def Alike (a b : Int) : Prop := a = b ∨ (1000000 ≤ a ∧ 1000000 ≤ b) ∨ (a ≤ -1000000 ∧ b ≤ -1000000)
theorem alike_of (neg : Bool) (l : List UInt8) (h : AllDig l) : Alike (if neg then -(powN l : Int) else powN l) (sg neg (clampN l)) := by
  unfold Alike sg; rcases powN_cl l h with ⟨h1, h2⟩ | ⟨h1, h2⟩
  · left; rw [h1]
  right; cases neg
  · left; simp; omega
  right; simp; omega
theorem powR_alike (r x : List UInt8) (en : Bool) (h : expoP r = some (en, x)) : Alike (powR r) (sg en (clampN x)) := by
  unfold expoP at h; split at h
  · rename_i h0
    subst h0; injection h with h; injection h with h1 h2; subst h1 h2; left; rfl
  split at h
  · rename_i h0 h1
    obtain ⟨c, t, rfl⟩ : ∃ c t, r = c :: t := by cases r with | nil => exact absurd rfl h0 | cons c t => exact ⟨c, t, rfl⟩
    have hc : c = 101 ∨ c = 69 := by simpa using h1
    have hdc : digB c = false := by rcases hc with rfl | rfl <;> decide
    have hnc : (c == 45) = false := by rcases hc with rfl | rfl <;> decide
    have hp : powR (c :: t) = powR t := by
      unfold powR; rw [powN_skip c t hdc]; unfold negB; rw [List.any_cons, hnc, Bool.false_or]
    rw [hp]; simp only [List.drop_succ_cons, List.drop_zero] at h; split at h
    · rename_i h2
      obtain ⟨u, rfl⟩ : ∃ u, t = 45 :: u := by
        cases t with
        | nil => simp at h2
        | cons a u => simp at h2; subst h2; exact ⟨u, rfl⟩
      obtain ⟨rfl, rfl, hd⟩ := chkE_dig h; have := alike_of true _ hd; unfold powR; rw [powN_skip 45 _ (by decide)]; simpa [negB] using this
    split at h
    · rename_i h2 h3
      obtain ⟨u, rfl⟩ : ∃ u, t = 43 :: u := by
        cases t with
        | nil => simp at h3
        | cons a u => simp at h3; subst h3; exact ⟨u, rfl⟩
      obtain ⟨rfl, hx, hd⟩ := chkE_dig (u := u) h; subst hx; have := alike_of false x hd; have hn := negB_dig x hd; unfold powR; rw [powN_skip 43 x (by decide), show negB (43 :: x) = false by unfold negB at *; rw [List.any_cons, hn]; rfl]; simpa using this
    obtain ⟨rfl, rfl, hd⟩ := chkE_dig h; have := alike_of false _ hd; unfold powR; rw [negB_dig _ hd]; simpa using this
  cases h
theorem norm_alike (neg : Bool) (m n : Nat) (a b f : Int) (hm : m < 10 ^ n) (hn : n ≤ 100000) (hf : 0 ≤ f ∧ f ≤ 100000) (h : Alike a b) : norm neg m (a - f) = norm neg m (b - f) := by
  rcases h with rfl | ⟨h1, h2⟩ | ⟨h1, h2⟩
  · rfl
  · rw [norm_high _ _ _ (by omega), norm_high _ _ _ (by omega)]
  rw [norm_low _ _ n _ hm (by omega), norm_low _ _ n _ hm (by omega)]
end Go.Proofs.YtinknjhclpaieaaGreatDoor
