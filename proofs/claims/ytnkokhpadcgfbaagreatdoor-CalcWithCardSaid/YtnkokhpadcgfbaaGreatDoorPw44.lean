/- Lemmas and contracts for the laws CalcWith, part 44 of 50: JoinC. Conditions: those that each lemma names. -/
import Derived.Test.YtnkokhpadcgfbaaGreatDoorPw42
import Derived.Test.YtnkokhpadcgfbaaGreatDoorPw37
namespace Go.Proofs.YtnkokhpadcgfbaaGreatDoor
open Go Go.RowKit Go.Proofs Th
attribute [local go_sem] Above.cell
def joinC (l : List JV) (gap : ByteArray) : JV × Int := if l.any (fun v => decide (5 ≤ v.k)) then (zeroJ, 80) else if 32768 + gap.size < jsize gap l then (zeroJ, 3) else (textV (joinB (l.map jpart) gap), 0)
theorem joinC_kind {l : List JV} {gap : ByteArray} (j : Nat) (h : j < l.length) (hk : 5 ≤ l[j].k) : joinC l gap = (zeroJ, 80) := by
  unfold joinC
  rw [if_pos (List.any_eq_true.2 ⟨l[j], List.getElem_mem h, by simpa using hk⟩)]
theorem any_small {l : List JV} (h : ∀ i (hi : i < l.length), l[i].k < 5) : l.any (fun v => decide (5 ≤ v.k)) = false := by
  rw [List.any_eq_false]
  intro v hv
  obtain ⟨i, hi, rfl⟩ := List.getElem_of_mem hv
  have := h i hi
  simp; omega
theorem joinC_big {l : List JV} {gap : ByteArray} (h : ∀ i (hi : i < l.length), l[i].k < 5) (hb : 32768 + gap.size < jsize gap l) : joinC l gap = (zeroJ, 3) := by
  unfold joinC
  rw [any_small h, if_neg (by simp), if_pos hb]
theorem joinC_text {l : List JV} {gap : ByteArray} (h : ∀ i (hi : i < l.length), l[i].k < 5) (hb : jsize gap l ≤ 32768 + gap.size) : joinC l gap = (textV (joinB (l.map jpart) gap), 0) := by
  unfold joinC
  rw [any_small h, if_neg (by simp), if_neg (by omega)]
theorem jpart_4e9 {v : JV} (h : allJ v = true) (hz : sizeJ v ≤ 1000000) : (jpart v).size ≤ 4000000000 := by
  have hs : v.s.size ≤ sizeJ v := by
    obtain ⟨k, m, e, s, l, ks⟩ := v
    show s.size ≤ 1 + s.size + keysN ks + sizeL l
    omega
  unfold jpart
  by_cases h4 : v.k = 4
  · rw [if_pos h4]; omega
  · rw [if_neg h4]
    by_cases h0 : v.k = 0
    · rw [if_pos h0]; exact Nat.zero_le _
    · rw [if_neg h0]
      have e0 : (⟨(printJ v).toArray⟩ : ByteArray).size = (printJ v).length := by rw [ByteArray.size]; simp
      rw [e0]
      have := textJ_len v h
      unfold printJ
      by_cases hr : rightJ v = 0
      · rw [if_pos hr]; omega
      · rw [if_neg hr]; exact Nat.zero_le _
theorem join_size (gap : ByteArray) (l : List JV) (h : jsize gap l ≤ 32768 + gap.size) : (Lib.join ((l.map jpart).map (·.data.toList)) gap.data.toList).length ≤ 32768 := by
  have h1 : (joinB (l.map jpart) gap).size = (Lib.join ((l.map jpart).map (·.data.toList)) gap.data.toList).length := by unfold joinB; rw [ByteArray.size]; simp
  rw [← h1]
  by_cases hne : l = []
  · subst hne; exact Nat.zero_le _
  · have := joinB_size gap l hne; omega
set_option maxRecDepth 100000 in
set_option maxHeartbeats 4000000 in
theorem calc_join2 (l : List JV) (gap : ByteArray) (A : Option Addr) (c : Nat) (w : World) (hl : l.length ≤ 100000) (hk : ∀ j (h : j < l.length), l[j].k ≤ 6) (hal : allL l = true) (hz : sizeL l ≤ 1000000) (hgap : gap.size ≤ 1000000) (hG : GlobW w) (hV : ValsAt w w.heap.size A c l) :
    Calls Tryz.prog 51 #[.slice A l.length c, .string gap] w fun r w' => ∃ cs', r = .returned (.tuple #[.agg (List.toArray cs'), .int .i64 (joinC l gap).2]) ∧ JAt w' w'.heap.size (joinC l gap).1 cs' ∧ Below w.heap.size w w' := by
  have hlc := hV.cap
  have hl0 := hV.le
  have HG := Keep.mk (fun W (hb : Below w.heap.size w W) => hG.below hb)
  have HK := Keep.mk hk
  have HZ := Keep.mk (fun j (h : j < l.length) => Nat.le_trans (sizeL_at l j h) hz)
  have HP := Keep.mk (fun j (h : j < l.length) => jpart_4e9 (allL_mem l l[j] hal (List.getElem_mem h)) (Nat.le_trans (sizeL_at l j h) hz))
  have HTO := Keep.mk (jsize_le gap l)
  clear hk hz hG hal
  go_enter Tryz.func51, Tryz.ntmps51
  go_wp2_with fail
  go_step3
  go_wp2_with fail
  refine wp_world (fun W => Box W w.heap.size zero6 ∧ Below w.heap.size w W ∧ W.heap.size = w.heap.size + 1) ⟨Box.new zero6 _ rfl, al1 _ _, by simp⟩ ?_
  rintro W0 ⟨HR0, hb0, hs0⟩
  have HV := Keep.mk (hV.below hb0 (Nat.le_refl _))
  replace HR0 := Keep.mk HR0
  replace hb0 := Keep.mk hb0
  replace hs0 := Keep.mk hs0
  clear hV
  go_step3
  simp only [Exit.then]
  go_wp2_with fail
  go_loopg [6, 7, 15] l.length (fun gk v6 v7 i wr => ∃ (j z : Nat), j + gk = l.length ∧ i = .int .i64 j ∧ v7 = .int .i64 z ∧ Keep (z = jsize gap (l.take j)) ∧ z ≤ 32768 + gap.size ∧ Keep (∀ i (hi : i < l.length), i < j → l[i].k < 5) ∧ Keep (Below (w.heap.size + 1) W0 wr) ∧ Keep (OwnS wr (w.heap.size + 1) v6 ((l.take j).map jpart)))
  case atStart => exact ⟨0, 0, by omega, rfl, rfl, ⟨by rw [List.take_zero]; rfl⟩, Nat.zero_le _, ⟨fun i _ h => absurd h (Nat.not_lt_zero _)⟩, ⟨Below.refl _ _⟩, ⟨by rw [List.take_zero]; exact OwnS.nil _ _⟩⟩
  case round =>
    obtain ⟨j, z, hj, rfl, rfl, HS, hzb, HA, HB, HO⟩ := hrel
    have hbs : w.heap.size + 1 ≤ wr.heap.size := Nat.le_trans (by have := hs0.out; omega) HB.out.size
    have HBW := Keep.mk (hb0.out.trans (HB.out.mono (by omega)))
    by_cases hlt : j < l.length
    · have hgk : gk ≠ 0 := by omega
      obtain ⟨g, o, k1, m1, e1, s1, A1, n1, d1, B1, q1, f1, rfl, hg, hJ1, y0, y1, y2, y3, y4, y5⟩ := (HV.out.below (HB.out.mono (by omega)) (Nat.le_refl _)).elem j hlt
      have hg2 : g < wr.heap.size := by omega
      have hpk := Keep.mk hJ1.parts
      have hk6 := HK.out j hlt
      rw [hpk.out.1] at hk6
      have HJ1 := Keep.mk ((hJ1.more (Nat.le_trans (by omega) hbs)).up (al1 wr (.cells #[.int .i64 k1, .int .i64 m1, .int .i64 e1, .string s1, .slice A1 n1 d1, .slice B1 q1 f1] 27)))
      have HBX := Keep.mk (Box.new (w := wr) (cells6 k1 m1 e1 s1 A1 n1 d1 B1 q1 f1) 27 rfl)
      have HB2 := Keep.mk (al1 wr (.cells #[.int .i64 k1, .int .i64 m1, .int .i64 e1, .string s1, .slice A1 n1 d1, .slice B1 q1 f1] 27))
      have HGW := Keep.mk (HG.out _ (up HBW.out HB2.out))
      clear hJ1
      go_upto_block 2 with fail
      refine wp_world (fun W => Below wr.heap.size wr W ∧ Box W wr.heap.size (cells6 k1 m1 e1 s1 A1 n1 d1 B1 q1 f1) ∧ JAt W W.heap.size l[j] (cells6 k1 m1 e1 s1 A1 n1 d1 B1 q1 f1) ∧ GlobW W) ⟨HB2.out, HBX.out, HJ1.out, HGW.out⟩ ?_
      clear HJ1 HBX HB2 HGW y0 y1 y2 y3 y4 y5
      rintro W2 ⟨HB2, HBX, HJ1, HGW⟩
      replace HB2 := Keep.mk HB2
      replace HBX := Keep.mk HBX
      replace HJ1 := Keep.mk HJ1
      replace HGW := Keep.mk HGW
      go_cut [10] (fun v10 wx => ∃ q : ByteArray, v10 = .string q ∧ Keep (jpart l[j] = q) ∧ Keep (l[j].k < 5) ∧ Keep (Below wr.heap.size wr wx))
      case first =>
        by_cases h56 : k1 = 5 ∨ k1 = 6
        · have HE := Keep.mk (joinC_kind (gap := gap) j hlt (by rw [hpk.out.1]; omega))
          have HR9 := Keep.mk (((HR0.out.below HB.out (by omega))).below HB2.out (by omega))
          have HB9 := Keep.mk (up HBW.out HB2.out)
          rcases h56 with rfl | rfl
          · have r0 := HR9.out.cell 0 _ rfl
            have f0 := HR9.out.froz 0
            have r1 := HR9.out.cell 1 _ rfl
            have f1 := HR9.out.froz 1
            have r2 := HR9.out.cell 2 _ rfl
            have f2 := HR9.out.froz 2
            have r3 := HR9.out.cell 3 _ rfl
            have f3 := HR9.out.froz 3
            have r4 := HR9.out.cell 4 _ rfl
            have f4 := HR9.out.froz 4
            have r5 := HR9.out.cell 5 _ rfl
            have f5 := HR9.out.froz 5
            have rl := HR9.out.lt
            go_wp2
            rw [Exit.noGoto_ret]
            refine bodyPost_ret (v := .tuple #[.agg #[.int .i64 0, .int .i64 0, .int .i64 0, .string ⟨#[]⟩, .slice none 0 0, .slice none 0 0], .int .i64 80]) ?_ rfl ?_
            · simp [results, Tryz.results51, go_sem, r0, r1, r2, r3, r4, r5]
            · exact ⟨_, by rw [HE.out], by rw [HE.out]; exact zero_at12 _ _, HB9.out.trans (six_below W2 w.heap.size (.int .i64 0) (.int .i64 0) (.int .i64 0) (.string ⟨#[]⟩) (.slice none 0 0) (.slice none 0 0) (by omega))⟩
          · have r0 := HR9.out.cell 0 _ rfl
            have f0 := HR9.out.froz 0
            have r1 := HR9.out.cell 1 _ rfl
            have f1 := HR9.out.froz 1
            have r2 := HR9.out.cell 2 _ rfl
            have f2 := HR9.out.froz 2
            have r3 := HR9.out.cell 3 _ rfl
            have f3 := HR9.out.froz 3
            have r4 := HR9.out.cell 4 _ rfl
            have f4 := HR9.out.froz 4
            have r5 := HR9.out.cell 5 _ rfl
            have f5 := HR9.out.froz 5
            have rl := HR9.out.lt
            go_wp2
            rw [Exit.noGoto_ret]
            refine bodyPost_ret (v := .tuple #[.agg #[.int .i64 0, .int .i64 0, .int .i64 0, .string ⟨#[]⟩, .slice none 0 0, .slice none 0 0], .int .i64 80]) ?_ rfl ?_
            · simp [results, Tryz.results51, go_sem, r0, r1, r2, r3, r4, r5]
            · exact ⟨_, by rw [HE.out], by rw [HE.out]; exact zero_at12 _ _, HB9.out.trans (six_below W2 w.heap.size (.int .i64 0) (.int .i64 0) (.int .i64 0) (.string ⟨#[]⟩) (.slice none 0 0) (.slice none 0 0) (by omega))⟩
        · have b5 : (k1 == 5) = false := by simpa using fun h => h56 (Or.inl h)
          have b6 : (k1 == 6) = false := by simpa using fun h => h56 (Or.inr h)
          have HK5 := Keep.mk (show l[j].k < 5 by rw [hpk.out.1]; omega)
          clear h56
          have x0 := HBX.out.cell 0 _ rfl
          have x1 := HBX.out.cell 1 _ rfl
          have x2 := HBX.out.cell 2 _ rfl
          have x3 := HBX.out.cell 3 _ rfl
          have x4 := HBX.out.cell 4 _ rfl
          have x5 := HBX.out.cell 5 _ rfl
          have xl := HBX.out.lt
          by_cases h4 : k1 = 4
          · subst h4
            have HQ := Keep.mk (show jpart l[j] = s1 by unfold jpart; rw [if_pos hpk.out.1, hpk.out.2.2.2])
            go_wp2_with fail
            go_meet
            exact ⟨_, rfl, HQ, HK5, HB2⟩
          · by_cases h0 : k1 = 0
            · subst h0
              have HQ := Keep.mk (show jpart l[j] = ⟨#[]⟩ by unfold jpart; rw [if_neg (by rw [hpk.out.1]; decide), if_pos hpk.out.1])
              go_wp2_with fail
              go_meet
              exact ⟨_, rfl, HQ, HK5, HB2⟩
            · have b4 : (k1 == 4) = false := by simpa using h4
              have b0 : (k1 == 0) = false := by simpa using h0
              have HQ0 := Keep.mk (show jpart l[j] = ⟨(printJ l[j]).toArray⟩ by unfold jpart; rw [if_neg (by rw [hpk.out.1]; exact h4), if_neg (by rw [hpk.out.1]; exact h0)])
              have HPR := Keep.mk (write_Print l[j] (HZ.out j hlt) _ _ HGW.out HJ1.out)
              clear h4 h0
              go_wp2_with fail
              refine HPR.out.mono ?_
              rintro r W3 ⟨b, rfl, hb, hb2⟩
              have HQ := Keep.mk (show jpart l[j] = b by rw [HQ0.out, ← hb])
              have HB3 := Keep.mk (up HB2.out hb2)
              clear hb hb2 HQ0 HPR x0 x1 x2 x3 x4 x5 xl
              go_wp2_with fail
              go_meet
              exact ⟨_, rfl, HQ, HK5, HB3⟩
      case rest =>
        clear HB2 HBX HJ1 HGW hpk
        obtain ⟨q, rfl, HQ, HK5, HB2⟩ := hcut
        have hps := HP.out j hlt
        rw [HQ.out] at hps
        have hle2 := HB2.out.size
        have HX2 := Keep.mk (strs_single wc q (by omega) 9)
        have HO2 := Keep.mk (HO.out.carry (up HB2.out (al1 wc (.cells #[.string q] 9))))
        have hln : Keep (((l.take j).map jpart).length ≤ 100000) := ⟨by rw [List.length_map, List.length_take]; omega⟩
        go_wp2_with (at_builtin; refine wpList_append_strs rfl (.tmp 37) (.tmp 39) rfl (w.heap.size + 1) _ _ rfl HO2.out _ _ 1 1 [q] rfl rfl HX2.out ?_ ?_ ?_)
        · have := hln.out; simp only [List.length_singleton]; omega
        · simp; omega
        · intro v8 w8 hO8 hg8
          have HB8 := Keep.mk (HB.out.trans (((up HB2.out (al1 wc (.cells #[.string q] 9))).mono hbs).trans (grown_below hg8 (by simp; omega) (fun b hb => (HO2.out.lt b hb).1))))
          have HO8 := Keep.mk hO8
          have HA2 := Keep.mk (show ∀ i (hi : i < l.length), i < j + 1 → l[i].k < 5 from fun i hi h => by
            by_cases e : i = j
            · subst e; exact HK5.out
            · exact HA.out i hi (by omega))
          have HS2 := Keep.mk (show z + (q.size + gap.size) = jsize gap (l.take (j + 1)) by rw [jsize_take gap l j hlt, HQ.out, ← HS.out])
          clear hO8 hg8 HX2 HA HS HO HO2
          by_cases hbig : z + (q.size + gap.size) ≤ 32768 + gap.size
          · go_wp2
            go_roundg (gk - 1)
            case rel => exact ⟨j + 1, z + (q.size + gap.size), by omega, by go_num, by go_num, HS2, hbig, HA2, HB8, ⟨by rw [jmap_step l j hlt, HQ.out, List.map_take]; exact HO8.out⟩⟩
            case measure => omega
          · have HBW8 := Keep.mk (hb0.out.trans (HB8.out.mono (by omega)))
            have hs8 : w.heap.size + 1 ≤ w8.heap.size := Nat.le_trans (by have := hs0.out; omega) HB8.out.size
            have hbg := Keep.mk (show 32768 + gap.size < jsize gap l by have := HTO.out (j + 1); rw [← HS2.out] at this; omega)
            have hlow : j ≤ l.length := by omega
            have hcne : ¬ c = j := by omega
            have hb2 : (32768 : Int) + (gap.size : Int) < (z : Int) + ((q.size : Int) + (gap.size : Int)) := by omega
            clear HO8
            go_wp2_with fail
            go_loopg [57] (l.length - j) (fun gk2 i wy => ∃ i2 : Nat, i2 + gk2 = l.length - j ∧ i = .int .i64 i2 ∧ Keep (∀ i (hi : i < l.length), i < j + i2 → l[i].k < 5) ∧ Keep (Below (w.heap.size + 1) W0 wy))
            case atStart => exact ⟨0, by omega, rfl, ⟨fun i hi h => HA2.out i hi (by omega)⟩, HB8⟩
            case round =>
              obtain ⟨i2, hi2, rfl, HA3, HB9⟩ := hrel
              have hs9 : w.heap.size + 1 ≤ wr.heap.size := Nat.le_trans (by have := hs0.out; omega) HB9.out.size
              have HBW9 := Keep.mk (hb0.out.trans (HB9.out.mono (by omega)))
              have HR9 := Keep.mk (HR0.out.below HB9.out (by omega))
              by_cases hlt2 : i2 < l.length - j
              · have hgk : gk ≠ 0 := by omega
                obtain ⟨g3, o3, k3, m3, e3, s3, A3, n3, d3, B3, q3, f3, hA3, hg3, hJ3, u0, u1, u2, u3, u4, u5⟩ := (HV.out.below (HB9.out.mono (by omega)) (Nat.le_refl _)).elem (j + i2) (by omega)
                have hg4 : g = g3 ∧ o = o3 := by injection hA3 with h; injection h with h1 h2; exact ⟨h1, h2⟩
                obtain ⟨rfl, rfl⟩ := hg4
                clear hA3
                rw [show o + (j + i2) * 6 = o + j * 6 + i2 * 6 by omega] at u0 u1 u2 u3 u4 u5
                have hpk3 := Keep.mk hJ3.parts
                clear hJ3
                by_cases h5 : 5 ≤ k3
                · have HE := Keep.mk (joinC_kind (l := l) (gap := gap) (j + i2) (by omega) (by rw [hpk3.out.1]; exact h5))
                  have HRA := Keep.mk (HR9.out.alloc (.cells #[.int .i64 k3, .int .i64 m3, .int .i64 e3, .string s3, .slice A3 n3 d3, .slice B3 q3 f3] 27))
                  have HBA := Keep.mk (up HBW9.out (al1 wr (.cells #[.int .i64 k3, .int .i64 m3, .int .i64 e3, .string s3, .slice A3 n3 d3, .slice B3 q3 f3] 27)))
                  go_upto_region 21 with fail
                  refine wp_world (fun W => Box W w.heap.size zero6 ∧ Below w.heap.size w W ∧ Box W wr.heap.size (cells6 k3 m3 e3 s3 A3 n3 d3 B3 q3 f3)) ⟨HRA.out, HBA.out, Box.new (cells6 k3 m3 e3 s3 A3 n3 d3 B3 q3 f3) _ rfl⟩ ?_
                  clear HRA HBA u0 u1 u2 u3 u4 u5
                  rintro W9 ⟨HRA, HBA, HXA⟩
                  replace HRA := Keep.mk HRA
                  replace HBA := Keep.mk HBA
                  have x0 := HXA.cell 0 _ rfl
                  have xl := HXA.lt
                  have r0 := HRA.out.cell 0 _ rfl
                  have f0 := HRA.out.froz 0
                  have r1 := HRA.out.cell 1 _ rfl
                  have f1 := HRA.out.froz 1
                  have r2 := HRA.out.cell 2 _ rfl
                  have f2 := HRA.out.froz 2
                  have r3 := HRA.out.cell 3 _ rfl
                  have f3 := HRA.out.froz 3
                  have r4 := HRA.out.cell 4 _ rfl
                  have f4 := HRA.out.froz 4
                  have r5 := HRA.out.cell 5 _ rfl
                  have f5 := HRA.out.froz 5
                  have rl := HRA.out.lt
                  go_wp2
                  rw [Exit.noGoto_ret]
                  refine bodyPost_ret (v := .tuple #[.agg #[.int .i64 0, .int .i64 0, .int .i64 0, .string ⟨#[]⟩, .slice none 0 0, .slice none 0 0], .int .i64 80]) ?_ rfl ?_
                  · simp [results, Tryz.results51, go_sem, r0, r1, r2, r3, r4, r5]
                  · exact ⟨_, by rw [HE.out], by rw [HE.out]; exact zero_at12 _ _, HBA.out.trans (six_below W9 w.heap.size (.int .i64 0) (.int .i64 0) (.int .i64 0) (.string ⟨#[]⟩) (.slice none 0 0) (.slice none 0 0) (by omega))⟩
                · have HA4 := Keep.mk (show ∀ i (hi : i < l.length), i < j + (i2 + 1) → l[i].k < 5 from fun i hi h => by
                    by_cases e : i = j + i2
                    · subst e; rw [hpk3.out.1]; omega
                    · exact HA3.out i hi (by omega))
                  have HB10 := Keep.mk (HB9.out.trans ((al1 wr (.cells #[.int .i64 k3, .int .i64 m3, .int .i64 e3, .string s3, .slice A3 n3 d3, .slice B3 q3 f3] 27)).mono hs9))
                  clear HA3
                  go_wp2
                  go_roundg (gk - 1)
                  case rel => exact ⟨i2 + 1, by omega, by go_num, HA4, HB10⟩
                  case measure => omega
              · have HE := Keep.mk (joinC_big (gap := gap) (l := l) (fun i hi => HA3.out i hi (by omega)) hbg.out)
                clear HA3
                have r0 := HR9.out.cell 0 _ rfl
                have f0 := HR9.out.froz 0
                have r1 := HR9.out.cell 1 _ rfl
                have f1 := HR9.out.froz 1
                have r2 := HR9.out.cell 2 _ rfl
                have f2 := HR9.out.froz 2
                have r3 := HR9.out.cell 3 _ rfl
                have f3 := HR9.out.froz 3
                have r4 := HR9.out.cell 4 _ rfl
                have f4 := HR9.out.froz 4
                have r5 := HR9.out.cell 5 _ rfl
                have f5 := HR9.out.froz 5
                have rl := HR9.out.lt
                go_wp2
                rw [Exit.noGoto_ret]
                refine bodyPost_ret (v := .tuple #[.agg #[.int .i64 0, .int .i64 0, .int .i64 0, .string ⟨#[]⟩, .slice none 0 0, .slice none 0 0], .int .i64 3]) ?_ rfl ?_
                · simp [results, Tryz.results51, go_sem, r0, r1, r2, r3, r4, r5]
                · exact ⟨_, by rw [HE.out], by rw [HE.out]; exact zero_at12 _ _, HBW9.out.trans (six_below wr w.heap.size (.int .i64 0) (.int .i64 0) (.int .i64 0) (.string ⟨#[]⟩) (.slice none 0 0) (.slice none 0 0) (by omega))⟩
    · obtain rfl : j = l.length := by omega
      have HAL := HA.out
      have hjs : jsize gap l ≤ 32768 + gap.size := by have := HS.out; rw [List.take_length] at this; omega
      have HE := Keep.mk (joinC_text (gap := gap) (l := l) (fun i hi => HAL i hi hi) hjs)
      have hO := HO.out
      rw [List.take_length] at hO
      obtain ⟨A7, c7, rfl, _, _⟩ := hO.form
      obtain ⟨_, hin⟩ := hO.strs (T := fun g => g < wr.heap.size) (by rw [List.length_map]; omega) (fun k hk => (hO.lt k hk).2)
      have HJN := Keep.mk (join_strs _ A7 c7 gap wr hin (by have := join_size gap l hjs; omega))
      have HSZ := Keep.mk (show (joinB (l.map jpart) gap).size ≤ 140737488351232 by
        have h1 := join_size gap l hjs
        have h2 : (joinB (l.map jpart) gap).size = (Lib.join ((l.map jpart).map (·.data.toList)) gap.data.toList).length := by unfold joinB; rw [ByteArray.size]; simp
        omega)
      rw [List.length_map] at HJN
      obtain ⟨q, hq⟩ : ∃ q : ByteArray, joinB (l.map jpart) gap = q := ⟨_, rfl⟩
      rw [hq] at HJN HSZ HE
      clear hq hO HO HV hin HK HZ HTO HAL HA HP hjs HS
      go_wp2_with fail
      refine HJN.out.mono ?_
      rintro r w2 ⟨rfl, hb2⟩
      go_wp2_with fail
      refine (calc_text q _).mono ?_
      rintro r w3 ⟨rfl, hb3⟩
      have HB3 := Keep.mk (HBW.out.trans ((up hb2 hb3).mono (by omega)))
      have HR3 := Keep.mk ((HR0.out.below HB.out (by omega)).below (up hb2 hb3) (by omega))
      clear hb2 hb3 HR0 HB HBW
      have r0 := HR3.out.cell 0 _ rfl
      have f0 := HR3.out.froz 0
      have r1 := HR3.out.cell 1 _ rfl
      have f1 := HR3.out.froz 1
      have r2 := HR3.out.cell 2 _ rfl
      have f2 := HR3.out.froz 2
      have r3 := HR3.out.cell 3 _ rfl
      have f3 := HR3.out.froz 3
      have r4 := HR3.out.cell 4 _ rfl
      have f4 := HR3.out.froz 4
      have r5 := HR3.out.cell 5 _ rfl
      have f5 := HR3.out.froz 5
      have rl := HR3.out.lt
      go_wp2
      rw [Exit.noGoto_ret]
      refine bodyPost_ret (v := .tuple #[.agg #[.int .i64 4, .int .i64 0, .int .i64 0, .string q, .slice none 0 0, .slice none 0 0], .int .i64 0]) ?_ rfl ?_
      · simp [results, Tryz.results51, go_sem, r0, r1, r2, r3, r4, r5]
      · exact ⟨_, by rw [HE.out], by rw [HE.out]; exact (text_in _ (fun _ => False) q HSZ.out).at (fun g hg => hg.elim), HB3.out.trans (six_below w3 w.heap.size (.int .i64 4) (.int .i64 0) (.int .i64 0) (.string q) (.slice none 0 0) (.slice none 0 0) (by omega))⟩
end Go.Proofs.YtnkokhpadcgfbaaGreatDoor
