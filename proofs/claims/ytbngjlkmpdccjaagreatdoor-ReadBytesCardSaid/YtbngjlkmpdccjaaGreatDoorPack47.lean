/- Lemmas and contracts for the laws ReadParses, ReadBytes, part 47 of 50: Ref6M. Conditions: those that each lemma names. -/
import Derived.Test.YtbngjlkmpdccjaaGreatDoorPack46
import Derived.Outline
namespace Go.Proofs.YtbngjlkmpdccjaaGreatDoor
open Go Go.RowKit Go.Proofs Th
attribute [local go_sem] Above.cell
theorem rk_s_size {l : List UInt8} {rs : List Tk} (hO : RsOk l rs) (hll : l.length ≤ 1000000) {i : Nat} (hi : i < rs.length) (he : (rk rs i).e = 0) (hs : (rk rs i).sign = 0) : (rk rs i).s.size ≤ 140737488351232 := by
  rw [rk_at rs i hi] at *
  obtain ⟨a, ha, e⟩ := hO.all i hi
  rw [e] at he hs ⊢
  have h2 := nextT_weight l a he (by rw [hs]; decide)
  have h3 := (nextT_to l a ha).1
  omega
theorem stL_value {l : List UInt8} {rs : List Tk} {d i gk J j2 : Nat} {wh : Int} {ks : List ByteArray} {li : List JV} {v : JV} {V : JV → JV} (hj2 : j2 < rs.length) (h1 : rs.length - J < gk) (h2 : li.length ≤ J) (hij : J + 2 < j2) (hiJ : i < J) (hdp : depthL li + d + 1 ≤ 96) (hdv : depthJ v + (d + 1) ≤ 96)
    (hG : Goes l rs d i (J + 2) (fun st v0 => (.val, ⟨6, ks, li⟩ :: st, V v0))) (k : Goes l rs (d + 1) (J + 2) j2 (fun st _ => (.off, st, v))) : StL l rs d i 123 (gk - 1) (li ++ [v]).length j2 0 wh wh ks (li ++ [v]) :=
  Or.inl ⟨rfl, rfl, hj2, by omega, by simp only [List.length_append, List.length_singleton]; omega, stD hdp hdv, Or.inr ⟨by simp, by omega, li, v, rfl, hG.value k⟩⟩
theorem stL_bad {l : List UInt8} {rs : List Tk} {d i gk J j2 we : Nat} {wh e : Int} {ks : List ByteArray} {li lj : List JV} {V : JV → JV} (he : e ≠ 0) (hJ : J + 2 ≤ rs.length)
    (hG : Goes l rs d i (J + 2) (fun st v0 => (.val, ⟨6, ks, li⟩ :: st, V v0))) (k : Fails l rs (d + 1) (J + 2) we e) : StL l rs d i 123 (gk - 1) lj.length j2 e wh we ks lj :=
  Or.inr ⟨he, we, rfl, hG.bad hJ k⟩
theorem makeJ_depth (ks : List ByteArray) (l : List JV) : depthJ (makeJ ks l).1 ≤ 48 := by
  unfold makeJ
  by_cases h1 : ks.length ≠ l.length
  · rw [if_pos h1]; decide
  · rw [if_neg h1]
    by_cases h2 : ks.all (fun k => Lib.validD k.data.toList) = false
    · rw [if_pos h2]; decide
    · rw [if_neg h2]
      by_cases h3 : badL l ≠ 0
      · rw [if_pos h3]; exact (by decide : depthJ zeroJ ≤ 48)
      · rw [if_neg h3]
        by_cases h4 : rightJ (.mk 6 0 0 ⟨#[]⟩ ((keysJ ks).map fun k => l.getD (lastIx ks ks.length k) zeroJ) (keysJ ks)) ≠ 0
        · rw [if_pos h4]; exact (by decide : depthJ zeroJ ≤ 48)
        · rw [if_neg h4]; exact (right_parts (Classical.not_not.1 h4)).1
theorem depthL_at (l : List JV) (j : Nat) (h : j < l.length) : depthJ l[j] ≤ depthL l := by
  have h1 := depthL_take l j h
  have h2 := depthL_take_le l (j + 1)
  omega
theorem zero_fresh {W w5 : World} {r : Option Nat} (_ : W.grownBy w5 r) : JIn w5 (newIn W w5) zeroJ zero6 := zero_in _ _
set_option maxRecDepth 100000 in
set_option maxHeartbeats 8000000 in
theorem value_map (l : List UInt8) (rs : List Tk) (hO : RsOk l rs) (hlen : rs.length ≤ 1000000) (hll : l.length ≤ 1000000) (d i : Nat) (hi : i < rs.length) (hd : d < 48) (he : (rk rs i).e = 0) (hs : (rk rs i).sign = 123)
    (IH : ∀ (j : Nat) (W : World) (p g c : Nat) (wh : Int), i < j → j < rs.length → RD W p g c (rs.map tokR) j 0 wh → Calls Tryz.prog 15 #[.pointer (some ⟨p, 0, none⟩), .int .i64 ((d : Int) + 1)] W fun r w' => ∃ cs, r = .returned (.agg (List.toArray cs)) ∧ W.grownBy w' (some p) ∧ ValR l rs (d + 1) j W w' p g c wh cs)
    (W : World) (p g c : Nat) (wh : Int) (hR : RD W p g c (rs.map tokR) i 0 wh) :
    Calls Tryz.prog 15 #[.pointer (some ⟨p, 0, none⟩), .int .i64 d] W fun r w' => ∃ cs, r = .returned (.agg (List.toArray cs)) ∧ W.grownBy w' (some p) ∧ ValR l rs d i W w' p g c wh cs := by
  have hi2 : i < (rs.map tokR).length := by rw [mk_len]; exact hi
  have hl2 : (rs.map tokR).length ≤ 1000000 := by rw [mk_len]; exact hlen
  have hmk := mk_at rs i hi2
  have hflag : ∀ x, x = 91 ∨ x = 123 → (decide ((rs.map tokR)[i].e = 0) && decide ((rs.map tokR)[i].sign = x)) = decide ((rk rs i).sign = x) := by
    intro x hx
    rw [hmk, tR_e, decide_eq_true he, Bool.true_and]
    exact decide_eq_decide.2 (tR_sign _ _ (by omega) (by omega))
  have HI1 := Keep.mk (fun (W' : World) (hr : RD W' p g c (rs.map tokR) i 0 wh) => (ref6_is hr hi2 hl2 91 (by decide)))
  have HI2 := Keep.mk (fun (W' : World) (hr : RD W' p g c (rs.map tokR) i 0 wh) => (ref6_is hr hi2 hl2 123 (by decide)))
  rw [hflag 91 (Or.inl rfl)] at HI1
  rw [hflag 123 (Or.inr rfl)] at HI2
  have HE := Keep.mk (fun (W' : World) (hr : RD W' p g c (rs.map tokR) i 0 wh) => hr.err hi2)
  have HSG := Keep.mk (fun (W' : World) (hr : RD W' p g c (rs.map tokR) i 0 wh) => hr.sign hi2)
  rw [hmk, tR_e, he] at HE
  rw [hmk] at HSG
  have hil : (i : Int) < ((rs.map tokR).length : Int) := by omega
  have hsg : (tokR (rk rs i)).sign = 123 := (tR_sign _ _ (by decide) (by decide)).2 hs
  rw [hs] at HI1 HI2
  rw [hsg] at HSG
  have HR := Keep.mk hR
  obtain ⟨hi1, hnx⟩ := hO.rk_next hi he (by rw [hs]; decide)
  have HHE := Keep.mk he
  have HHS := Keep.mk hs
  have HIH := Keep.mk IH
  clear hR hs hmk hflag he hsg hnx IH
  have hib : (i : Int) < 1000000 := by omega
  have hlm : (rs.map tokR).length = rs.length := mk_len rs
  have HLM := Keep.mk hlm
  have hdb : (d : Int) < 48 := by omega
  have hd48 : ((d : Int) == 48) = false := by rw [beq_eq_false_iff_ne]; omega
  generalize hnn : (rs.map tokR).length = n at *
  go_enter Tryz.func15, Tryz.ntmps15
  go_upto_region 1 with fail
  refine wp_world (fun W' => VBlkT W' W.heap.size zero6 ∧ RD W' p g c (rs.map tokR) i 0 wh ∧ W.grownBy W' (some p)) ⟨VBlkT.new zero6 rfl, HR.out.below (al1 _ _), below_grown (al1 _ _)⟩ ?_
  have hpw := HR.out.plt
  have hgw := HR.out.glt
  clear HR
  rintro W1 ⟨HV, HR, HB⟩
  replace HV := Keep.mk HV
  replace HR := Keep.mk HR
  replace HB := Keep.mk HB
  have b2 := HR.out.b4.cell 2 _ rfl
  have pl := HR.out.plt
  go_wp2_with fail
  refine (HI1.out _ HR.out).mono ?_
  rintro r W2 ⟨rfl, hb2⟩
  replace HV := Keep.mk (show VBlkT W2 W.heap.size zero6 from (hb2.block _ (lt_of_block HV.out)).trans HV.out)
  replace HR := Keep.mk (HR.out.below hb2)
  replace HB := Keep.mk (grownp_trans HB.out (below_grown (row := some p) hb2))
  clear hb2 b2 pl
  go_wp2_with fail
  refine (HI2.out _ HR.out).mono ?_
  rintro r W3 ⟨rfl, hb3⟩
  replace HV := Keep.mk (show VBlkT W3 W.heap.size zero6 from (hb3.block _ (lt_of_block HV.out)).trans HV.out)
  replace HR := Keep.mk (HR.out.below hb3)
  replace HB := Keep.mk (grownp_trans HB.out (below_grown (row := some p) hb3))
  clear hb3
  have b0 := HR.out.b4.cell 0 _ rfl
  have b1 := HR.out.b4.cell 1 _ rfl
  have c8 := HE.out _ HR.out
  have c0 := HSG.out _ HR.out
  have pl := HR.out.plt
  have gl := HR.out.glt
  go_upto_region 5 with fail
  refine wp_region_above (by kernel_rfl) (by kernel_rfl) ?_
  repeat (go_big_quiet_step (fail))
  refine wpQuiet_nil ?_
  rintro _ ⟨⟨W4, hb4⟩, rfl⟩
  replace HV := Keep.mk (show VBlkT _ W.heap.size zero6 from (hb4.block _ (lt_of_block HV.out)).trans HV.out)
  replace HR := Keep.mk (HR.out.below hb4)
  replace HB := Keep.mk (grownp_trans HB.out (below_grown (row := some p) hb4))
  clear hb4 b0 b1 c8 c0 pl gl
  have b1 := HR.out.b4.cell 1 _ rfl
  have f1 := HR.out.b4.froz 1
  have pl := HR.out.plt
  go_upto_block 0 with fail
  refine wp_world (fun W' => LsS W W' p g c (rs.map tokR) (i + 1) 0 wh (.slice none 0 0) (.slice none 0 0) [] []) ⟨HV.out.other (by omega) _ _, HR.out.set_i (i + 1), grownp_trans HB.out (set_grown _ p 1 _), OwnS.nil _ _, OwnV.nil _ _ _, (by intro b h; cases h), ⟨hpw, hgw⟩⟩ ?_
  clear HV HR HB b1 f1 pl HI1 HI2 HE HSG
  rintro W5 HL
  replace HL := Keep.mk HL
  go_cut [8, 9, 10] (fun t8 t9 _ wx => ∃ (vk vl : Value) (j : Nat) (er whI : Int) (ks : List ByteArray) (li : List JV), t8 = vk ∧ t9 = vl ∧ Keep (LsS W wx p g c (rs.map tokR) j er whI vk vl ks li) ∧ Keep (FinL l rs d i 123 j er wh whI ks li) ∧ Keep (li.length ≤ 1000002) ∧ Keep (ks.length ≤ 1000003))
  case first =>
    go_wp2_with fail
    go_loopg [8, 9, 10] (rs.length + 1) (fun gk t8 t9 t10 wr => ∃ (vk vl : Value) (z : Int) (j : Nat) (er whI : Int) (ks : List ByteArray) (li : List JV), t8 = vk ∧ t9 = vl ∧ t10 = .int .i64 z ∧ 0 ≤ z ∧ z ≤ 1000001 ∧ Keep ((li.length : Int) = z) ∧ Keep (ks.length ≤ li.length) ∧ Keep (LsS W wr p g c (rs.map tokR) j er whI vk vl ks li) ∧ Keep (StL l rs d i 123 gk li.length j er wh whI ks li))
    case atStart => exact ⟨_, _, 0, i + 1, 0, wh, [], [], rfl, rfl, rfl, by omega, by omega, ⟨rfl⟩, ⟨Nat.le_refl _⟩, HL, ⟨Or.inl ⟨rfl, rfl, hi1, by omega, Nat.zero_le _, (by show 0 + d + 1 ≤ 96; omega), Or.inl ⟨rfl, rfl, rfl, rfl⟩⟩⟩⟩
    case round =>
      clear HL
      obtain ⟨vk, vl, z, j, er, whI, ks, li, rfl, rfl, rfl, hz0, hz1, HLN, HKN, HL, HST⟩ := hrel
      have b2 := HL.out.r.b4.cell 2 _ rfl
      have pl := HL.out.r.plt
      by_cases her : er = 0
      case neg =>
        have herb : (er == 0) = false := by simpa using her
        have HFI := Keep.mk (show FinL l rs d i 123 j er wh whI ks li from Or.inr (HST.out.resolve_left (fun h => her h.1)))
        clear her HST
        go_wp2_with fail
        go_meet
        exact ⟨_, _, j, er, whI, ks, li, rfl, rfl, HL, HFI, ⟨by have := HLN.out; omega⟩, ⟨by have := HKN.out; have := HLN.out; omega⟩⟩
      case pos =>
      subst her
      obtain ⟨-, rfl, hj, hgk0, hnj, hdp, hst⟩ := HST.out.resolve_right (fun h => h.1 rfl)
      replace hdp := Keep.mk hdp
      replace hst := Keep.mk hst
      clear HST
      have HI := Keep.mk (is_rk HL.out.r hj hlen 125 (by decide) (by decide))
      by_cases hend : (rk rs j).e = 0 ∧ (rk rs j).sign = 125
      · rw [decide_eq_true hend] at HI
        have HFI := Keep.mk (show FinL l rs d i 123 j 0 whI whI ks li from Or.inl ⟨rfl, rfl, hj, hend, by
          rcases hst.out with ⟨_, rfl, rfl, rfl⟩ | ⟨_, h1, ini, v, rfl, hg⟩
          · have h := go_empty hO (d := d) hi (by omega) HHE.out (Or.inr HHS.out) hend.1 (by rw [HHS.out]; exact hend.2)
            rw [HHS.out] at h
            exact ⟨h.1, by omega, h.2, hdp.out⟩
          · have h := go_shut hO hg hj hend.1 hend.2 (Or.inr rfl)
            exact ⟨h.1, by omega, h.2, hdp.out⟩⟩)
        by_cases hn0 : z = 0
        · subst hn0
          clear hst hend
          go_wp2_with fail
          refine HI.out.mono ?_
          rintro r w3 ⟨rfl, hb3⟩
          have HL3 := Keep.mk (HL.out.call (below_grown hb3) (HL.out.r.below hb3))
          clear hb3 HL HI b2 pl
          go_wp2_with fail
          go_meet
          exact ⟨_, _, j, 0, _, ks, li, rfl, rfl, HL3, HFI, ⟨by have := HLN.out; omega⟩, ⟨by have := HKN.out; have := HLN.out; omega⟩⟩
        · have hnb : (z == 0) = false := by rw [beq_eq_false_iff_ne]; exact hn0
          have hnp : 0 < z := by omega
          clear hst hend hn0
          go_wp2_with fail
          refine HI.out.mono ?_
          rintro r w3 ⟨rfl, hb3⟩
          have HL3 := Keep.mk (HL.out.call (below_grown hb3) (HL.out.r.below hb3))
          clear hb3 HL HI b2 pl
          go_wp2_with fail
          go_meet
          exact ⟨_, _, j, 0, _, ks, li, rfl, rfl, HL3, HFI, ⟨by have := HLN.out; omega⟩, ⟨by have := HKN.out; have := HLN.out; omega⟩⟩
      · have hgk : gk ≠ 0 := by omega
        have HIF := Keep.mk (fun (W' : World) (hr : RD W' p g c (rs.map tokR) j 0 whI) => is_rk hr hj hlen 125 (by decide) (by decide))
        rw [decide_eq_false hend] at HIF
        clear HI
        go_upto_region 21 with fail
        go_cut [112] (fun q wx => q = .bool true ∧ Keep (LsS W wx p g c (rs.map tokR) j 0 whI u8 u9 ks li))
        case first =>
          by_cases hn0 : z = 0
          · subst hn0
            clear hst hend
            go_wp2_with fail
            refine (HIF.out _ HL.out.r).mono ?_
            rintro r w3 ⟨rfl, hb3⟩
            have HL3 := Keep.mk (HL.out.call (below_grown hb3) (HL.out.r.below hb3))
            clear hb3 HL HIF b2 pl
            go_wp2_with fail
            go_meet
            exact ⟨rfl, HL3⟩
          · have hnb : (z == 0) = false := by rw [beq_eq_false_iff_ne]; exact hn0
            have hnp : 0 < z := by omega
            clear hst hend hn0
            go_wp2_with fail
            go_meet
            exact ⟨rfl, HL⟩
        case rest =>
        obtain ⟨rfl, HL2⟩ := hcut
        clear HL b2 pl
        have HL := HL2
        clear HL2
        go_upto_region 23 with fail
        go_cut [121] (fun q wx => q = .bool false ∧ Keep (LsS W wx p g c (rs.map tokR) j 0 whI u8 u9 ks li))
        case first =>
          by_cases hn0 : z = 0
          · subst hn0
            clear hst hend
            go_wp2_with fail
            go_meet
            exact ⟨rfl, HL⟩
          · have hnb : (z == 0) = false := by rw [beq_eq_false_iff_ne]; exact hn0
            have hnp : 0 < z := by omega
            clear hst hend hn0
            go_wp2_with fail
            refine (HIF.out _ HL.out.r).mono ?_
            rintro r w3 ⟨rfl, hb3⟩
            have HL3 := Keep.mk (HL.out.call (below_grown hb3) (HL.out.r.below hb3))
            clear hb3 HL HIF
            go_wp2_with fail
            go_meet
            exact ⟨rfl, HL3⟩
        case rest =>
        obtain ⟨rfl, HL2⟩ := hcut
        clear HL HIF
        go_upto_region 24 with fail
        go_cut [123] (fun q wx => ∃ b : Bool, q = .bool b ∧ Keep (b = decide (0 < z)) ∧ Keep (LsS W wx p g c (rs.map tokR) j 0 whI u8 u9 ks li))
        case first =>
          go_wp2_with fail
          go_meet
          exact ⟨_, rfl, ⟨rfl⟩, HL2⟩
        case rest =>
        obtain ⟨bz, rfl, HBZ, HL3⟩ := hcut
        clear HL2
        go_upto_if 123 with fail
        go_cut [] (fun wx => ∃ (J : Nat) (er2 w2 : Int), Keep (LsS W wx p g c (rs.map tokR) J er2 w2 u8 u9 ks li) ∧ Keep ((er2 = 0 ∧ whI = w2 ∧ J < rs.length ∧ rs.length - J < gk ∧ li.length ≤ J ∧ i < J ∧ ∃ V : JV → JV, Goes l rs d i J (fun st v0 => (.key, ⟨6, ks, li⟩ :: st, V v0))) ∨ (er2 ≠ 0 ∧ ∃ fa : Nat, w2 = fa ∧ Fails l rs d i fa er2)))
        case first =>
          by_cases hn0 : z = 0
          · subst hn0
            obtain rfl : bz = false := by rw [HBZ.out]; simp
            clear HBZ
            obtain rfl : li = [] := List.eq_nil_of_length_eq_zero (by have := HLN.out; omega)
            obtain ⟨_, rfl, rfl, _⟩ := hst.out.resolve_right (fun h => h.1 rfl)
            have HGO := Keep.mk (go_open_map hO (d := d) hi (by omega) HHE.out HHS.out hend).2
            clear hst hend
            go_wp2_with fail
            go_meet
            exact ⟨_, _, _, HL3, ⟨Or.inl ⟨rfl, rfl, hi1, by omega, Nat.zero_le _, by omega, fun v0 => v0, HGO.out⟩⟩⟩
          · obtain rfl : bz = true := by rw [HBZ.out]; simp; omega
            clear HBZ
            obtain ⟨_, hij1, ini, v0, hli, hg⟩ := hst.out.resolve_left (fun h => hn0 (by have := HLN.out; omega))
            by_cases hcm : (rk rs j).e = 0 ∧ (rk rs j).sign = 44
            · have hgc := go_comma_map hO hg hj hcm.1 hcm.2
              rw [← hli] at hgc
              have HGO := Keep.mk hgc.2
              have hj1 := hgc.1
              have HW := Keep.mk (want_yes HL3.out.r hj hlen 44 (by decide) (by decide) hcm)
              clear hst hend hg hcm hgc hn0 hli
              go_wp2_with fail
              refine HW.out.mono ?_
              rintro r w4 ⟨rfl, hr4, hg4⟩
              have HL4 := Keep.mk (HL3.out.call hg4 hr4)
              clear HL3 hr4 hg4 HW
              go_wp2_with fail
              go_meet
              exact ⟨_, _, _, HL4, ⟨Or.inl ⟨rfl, rfl, hj1, by omega, by omega, by omega, fun _ => v0, HGO.out⟩⟩⟩
            · have HFA := Keep.mk (fail_off (sg := 123) hg hj (Or.inr rfl) hend hcm)
              have HW := Keep.mk (want_not HL3.out.r hj hlen 44 (by decide) (by decide) hcm)
              have hfe := fault_ne (rk rs j) (e := 60) (by decide)
              generalize faultE (rk rs j) 60 = fe at *
              generalize (rk rs j).at_ = fa at *
              replace hfe := Keep.mk hfe
              clear hst hend hg hcm hn0 hli
              go_wp2_with fail
              refine HW.out.mono ?_
              rintro r w4 ⟨rfl, hr4, hg4⟩
              have HL4 := Keep.mk (HL3.out.call hg4 hr4)
              clear HL3 hr4 hg4 HW
              go_wp2_with fail
              go_meet
              exact ⟨_, _, _, HL4, ⟨Or.inr ⟨hfe.out, _, rfl, HFA.out⟩⟩⟩
        case rest =>
        obtain ⟨J, fe, w2, HL4, HD⟩ := hcut
        clear HL3 hst hend HBZ
        by_cases her2 : fe = 0
        · subst her2
          obtain ⟨-, rfl, hj1, hgk1, hnj2, hiJ, V, hgo⟩ := HD.out.resolve_right (fun h => h.1 rfl)
          have HGO := Keep.mk hgo
          clear HD hgo hgk0 hnj hj
          have hJ2 : J < (rs.map tokR).length := by have := HLM.out; omega
          have hJi : ((J : Nat) : Int) < (n : Int) := by omega
          have HTV := Keep.mk (tR_v (rk rs (J)))
          have HC := Keep.mk (fun (W' : World) (er wq : Int) (hr : RD W' p g c (rs.map tokR) (J) er wq) => hr.tok (J) hJ2)
          rw [mk_at rs (J) hJ2] at HC
          have HC0 := Keep.mk (fun W' er wq hr => HC.out W' er wq hr 0 _ rfl)
          have HC1 := Keep.mk (fun W' er wq hr => HC.out W' er wq hr 1 _ rfl)
          have HC4 := Keep.mk (fun W' er wq hr => HC.out W' er wq hr 4 _ rfl)
          have HC8 := Keep.mk (fun W' er wq hr => HC.out W' er wq hr 8 _ rfl)
          rw [HTV.out.1] at HC1
          rw [HTV.out.2.2.2] at HC4
          rw [tR_e] at HC8
          clear HC HTV
          have b0 := HL4.out.r.b4.cell 0 _ rfl
          have b1 := HL4.out.r.b4.cell 1 _ rfl
          have b2 := HL4.out.r.b4.cell 2 _ rfl
          have pl := HL4.out.r.plt
          have gl := HL4.out.r.glt
          have c0 := HC0.out _ _ _ HL4.out.r
          have c1 := HC1.out _ _ _ HL4.out.r
          have c8 := HC8.out _ _ _ HL4.out.r
          simp only [Nat.add_zero] at c0 c1 c8
          by_cases hkey : (rk rs (J)).sign = 0 ∧ (rk rs (J)).e = 0 ∧ (rk rs (J)).k = 4
          · obtain ⟨hk1, hk2, hk3⟩ := hkey
            have hsg0 := (tR_sign (rk rs (J)) 0 (by decide) (by decide)).2 hk1
            have HGK := Keep.mk (fun (h : (rk rs (J + 1)).e = 0 ∧ (rk rs (J + 1)).sign = 58) => go_key hO HGO.out hj1 hk2 hk1 hk3 h.1 h.2)
            have HFC := Keep.mk (fun h => fail_colon hO HGO.out hj1 hk2 hk1 hk3 h)
            obtain ⟨hJ1, hnxk⟩ := hO.rk_next hj1 hk2 (by rw [hk1]; decide)
            rw [hsg0] at c0
            rw [hk2] at c8
            rw [hk3] at c1
            have hSX := rk_s_size hO hll hj1 hk2 hk1
            generalize hsx : (rk rs (J)).s = sx at *
            clear hsx hsg0 hk1 hk2 hk3 HGO hnxk
            go_upto_region 27 with fail
            refine wp_region_above (by kernel_rfl) (by kernel_rfl) ?_
            repeat (go_big_quiet_step (fail))
            refine wpQuiet_nil ?_
            rintro _ ⟨⟨w7, hb7⟩, rfl⟩
            have HL7 := Keep.mk (HL4.out.call (below_grown hb7) (HL4.out.r.below hb7))
            clear hb7 b0 b1 b2 pl gl c0 c1 c8
            go_upto_region 29 with fail
            refine wp_world (fun W' => LsS W W' p g c (rs.map tokR) J 0 whI _ _ ks li) HL7.out ?_
            clear HL7
            rintro w7 HL7
            replace HL7 := Keep.mk HL7
            have hkb := HL7.out.k.lt
            have hpg := HL7.out.pg
            have hW7 := lt_of_block HL7.out.v
            have hRk : ∀ W', w7.grownBy W' u8.ownBlock → RD W' p g c (rs.map tokR) J 0 whI := fun W' hg => HL7.out.r.keep (hg.block p HL7.out.r.plt (fun e => by have := (hkb _ e.symm).1; have := hpg.1; omega)) (hg.block g HL7.out.r.glt (fun e => by have := (hkb _ e.symm).1; have := hpg.2; omega)) hg.size
            refine wp_region_rely 15 (fun L w' => w7.grownBy w' u8.ownBlock ∧ (L 14 = false → Below w7.heap.size w7 w')) (fun
              | 0 => fun v _ => v = u8
              | 1 => fun v _ => v = .pointer (some ⟨p, 0, none⟩)
              | 2 => fun v _ => v = .pointer (some ⟨p, 0, none⟩)
              | 3 => fun v _ => v = .pointer (some ⟨p, 0, none⟩)
              | 4 => fun v _ => v = .slice (some ⟨g, 0, none⟩) n c
              | 5 => fun v _ => v = .pointer (some ⟨p, 0, none⟩)
              | 6 => fun v _ => v = .pointer (some ⟨p, 0, none⟩)
              | 7 => fun v _ => v = .pointer (some ⟨p, 1, none⟩)
              | 8 => fun v _ => v = .int .i64 (J : Int)
              | 9 => fun v _ => v = .pointer (some ⟨g, J * 9, none⟩)
              | 10 => fun v _ => v = .pointer (some ⟨g, J * 9 + 1, none⟩)
              | 11 => fun v _ => v = .pointer (some ⟨g, J * 9 + 4, none⟩)
              | 12 => fun v _ => v = .string sx
              | 13 => fun v w' => ∃ q, v = .slice (some ⟨q, 0, none⟩) 1 1 ∧ w7.heap.size ≤ q ∧ q < w'.heap.size ∧ StrsIn w' (fun b => b = q) (some ⟨q, 0, none⟩) 1 [sx]
              | 14 => fun v w' => OwnS w' (W.heap.size + 1) v (ks ++ [sx]) ∧ (v.ownBlock = u8.ownBlock ∨ ∃ b, v.ownBlock = some b ∧ w7.heap.size ≤ b)
              | _ => fun _ _ => True) (fun | 14 => fun w1 w2 => w1.grownBy w2 u8.ownBlock | _ => fun w1 w2 => Below w1.heap.size w1 w2) (by kernel_rfl) (by kernel_rfl)
              ⟨⟨rfl, rfl, rfl, Nat.le_refl _, fun _ _ _ => rfl⟩, fun _ => below_drawn w7⟩ ?_ ?_ ?_
            · intro i j v w1 w2 hij hG
              match j with
              | 0 | 1 | 2 | 3 | 4 | 5 | 6 | 7 | 8 | 9 | 10 | 11 | 12 => exact fun h => h
              | 13 =>
                rintro ⟨q, h1, h2, h3, h4⟩
                have hst : w2.heap[q]? = w1.heap[q]? ∧ w1.heap.size ≤ w2.heap.size := by
                  match i, hij with
                  | 0, _ | 1, _ | 2, _ | 3, _ | 4, _ | 5, _ | 6, _ | 7, _ | 8, _ | 9, _ | 10, _ | 11, _ | 12, _ => exact ⟨hG.block q h3, hG.size⟩
                  | 13, h => exact absurd rfl h
                  | 14, _ => exact ⟨hG.block q h3 (fun e => by have := (hkb q e.symm).2; omega), hG.size⟩
                  | _ + 15, _ => exact ⟨hG.block q h3, hG.size⟩
                exact ⟨q, h1, h2, Nat.lt_of_lt_of_le h3 hst.2, h4.keep (fun b hb => by subst hb; exact hst.1) (fun _ h => h)⟩
              | 14 =>
                rintro ⟨h1, h2⟩
                have hG : Below w1.heap.size w1 w2 := by
                  match i, hij with
                  | 0, _ | 1, _ | 2, _ | 3, _ | 4, _ | 5, _ | 6, _ | 7, _ | 8, _ | 9, _ | 10, _ | 11, _ | 12, _ | 13, _ => exact hG
                  | 14, h => exact absurd rfl h
                  | _ + 15, _ => exact hG
                exact ⟨h1.keep (fun b hb => hG.block b (h1.lt b hb).2), h2⟩
              | _ + 15 => exact fun h => h
            · simp only [List.take, stepHold]
              refine ⟨?_, ?_, ?_, ?_, ?_, ?_, ?_, ?_, ?_, ?_, ?_, ?_, ?_, ?_, ?_, trivial⟩
              · intro L a wa hL hI hs hd
                have e1 : a.eval (.tmp 8) = u8 := hs 8 (by kernel_rfl)
                exact op_val _ (w' := wa) (by unfold execOp; simp only [e1]; go_simp) ⟨_, rfl, rfl, ⟨hI.1, fun h => hI.2 (by simpa using h)⟩, Below.refl _ _⟩
              · intro L a wa hL hI hs hd
                have e1 : a.eval (.tmp 0) = .pointer (some ⟨p, 0, none⟩) := hs 0 (by kernel_rfl)
                exact op_val _ (w' := wa) (by unfold execOp; simp only [e1]; go_simp) ⟨_, rfl, rfl, ⟨hI.1, fun h => hI.2 (by simpa using h)⟩, Below.refl _ _⟩
              · intro L a wa hL hI hs hd
                have e1 : a.eval (.tmp 178) = .pointer (some ⟨p, 0, none⟩) := hd.1
                exact op_val _ (w' := wa) (by unfold execOp; simp only [e1]; go_simp) ⟨_, rfl, rfl, ⟨hI.1, fun h => hI.2 (by simpa using h)⟩, Below.refl _ _⟩
              · intro L a wa hL hI hs hd
                have e1 : a.eval (.tmp 179) = .pointer (some ⟨p, 0, none⟩) := hd.1
                exact op_val _ (w' := wa) (by unfold execOp; simp only [e1]; go_simp) ⟨_, rfl, rfl, ⟨hI.1, fun h => hI.2 (by simpa using h)⟩, Below.refl _ _⟩
              · intro L a wa hL hI hs hd
                have e1 : a.eval (.tmp 180) = .pointer (some ⟨p, 0, none⟩) := hd.1
                have c0 := (hRk wa hI.1).b4.cell 0 _ rfl
                have pl := (hRk wa hI.1).plt
                rw [hnn] at c0
                exact op_val _ (w' := wa) (by unfold execOp; simp only [e1]; go_simp) ⟨_, rfl, rfl, ⟨hI.1, fun h => hI.2 (by simpa using h)⟩, Below.refl _ _⟩
              · intro L a wa hL hI hs hd
                have e1 : a.eval (.tmp 0) = .pointer (some ⟨p, 0, none⟩) := hs 0 (by kernel_rfl)
                exact op_val _ (w' := wa) (by unfold execOp; simp only [e1]; go_simp) ⟨_, rfl, rfl, ⟨hI.1, fun h => hI.2 (by simpa using h)⟩, Below.refl _ _⟩
              · intro L a wa hL hI hs hd
                have e1 : a.eval (.tmp 182) = .pointer (some ⟨p, 0, none⟩) := hd.1
                exact op_val _ (w' := wa) (by unfold execOp; simp only [e1]; go_simp) ⟨_, rfl, rfl, ⟨hI.1, fun h => hI.2 (by simpa using h)⟩, Below.refl _ _⟩
              · intro L a wa hL hI hs hd
                have e1 : a.eval (.tmp 183) = .pointer (some ⟨p, 0, none⟩) := hd.1
                exact op_val _ (w' := wa) (by unfold execOp; simp only [e1]; go_simp) ⟨_, rfl, rfl, ⟨hI.1, fun h => hI.2 (by simpa using h)⟩, Below.refl _ _⟩
              · intro L a wa hL hI hs hd
                have e1 : a.eval (.tmp 184) = .pointer (some ⟨p, 1, none⟩) := hd.1
                have c0 := (hRk wa hI.1).b4.cell 1 _ rfl
                have pl := (hRk wa hI.1).plt
                exact op_val _ (w' := wa) (by unfold execOp; simp only [e1]; go_simp) ⟨_, rfl, rfl, ⟨hI.1, fun h => hI.2 (by simpa using h)⟩, Below.refl _ _⟩
              · intro L a wa hL hI hs hd
                have e1 : a.eval (.tmp 181) = .slice (some ⟨g, 0, none⟩) n c := hd.1
                have e2 : a.eval (.tmp 185) = .int .i64 (J : Int) := hd.2.1
                exact op_val _ (w' := wa) (by unfold execOp; simp only [e1, e2]; go_simp) ⟨_, rfl, rfl, ⟨hI.1, fun h => hI.2 (by simpa using h)⟩, Below.refl _ _⟩
              · intro L a wa hL hI hs hd
                have e1 : a.eval (.tmp 186) = .pointer (some ⟨g, J * 9, none⟩) := hd.1
                exact op_val _ (w' := wa) (by unfold execOp; simp only [e1]; go_simp) ⟨_, rfl, rfl, ⟨hI.1, fun h => hI.2 (by simpa using h)⟩, Below.refl _ _⟩
              · intro L a wa hL hI hs hd
                have e1 : a.eval (.tmp 187) = .pointer (some ⟨g, J * 9 + 1, none⟩) := hd.1
                exact op_val _ (w' := wa) (by unfold execOp; simp only [e1]; go_simp) ⟨_, rfl, rfl, ⟨hI.1, fun h => hI.2 (by simpa using h)⟩, Below.refl _ _⟩
              · intro L a wa hL hI hs hd
                have e1 : a.eval (.tmp 188) = .pointer (some ⟨g, J * 9 + 4, none⟩) := hd.1
                have c0 := HC4.out _ _ _ (hRk wa hI.1)
                have pl := (hRk wa hI.1).glt
                exact op_val _ (w' := wa) (by unfold execOp; simp only [e1]; go_simp) ⟨_, rfl, rfl, ⟨hI.1, fun h => hI.2 (by simpa using h)⟩, Below.refl _ _⟩
              · intro L a wa hL hI hs hd
                have e1 : a.eval (.tmp 189) = .string sx := hd.1
                have f1 := get_form e1
                exact op_val _ (w' := wa.alloc (.cells #[.string sx] 9)) (by unfold execOp; go_simp) ⟨_, rfl, ⟨wa.heap.size, rfl, hI.1.size, by simp, strs_one wa sx hSX _⟩, ⟨grown_below hI.1 (al1 _ _), fun h => up (hI.2 (by simpa using h)) (al1 _ _)⟩, al1 _ _⟩
              · intro L a wa hL hI hs hd
                have e1 : a.eval (.tmp 177) = u8 := hd.1
                obtain ⟨q, e2, hq1, hq2, hq3⟩ := hd.2.1
                have e2 : a.eval (.tmp 190) = .slice (some ⟨q, 0, none⟩) 1 1 := e2
                have hB := hI.2 hL
                refine op_append_strs (.tmp 177) (.tmp 190) rfl (W.heap.size + 1) u8 ks e1 (HL7.out.k.keep (fun b hb => hB.block b (hkb b hb).2)) _ _ 1 1 [sx] rfl e2 hq3 ?_ (by have := hB.size; omega) fun v2 w2 h1 h2 h3 => ⟨_, rfl, ⟨h1, ?_⟩, ⟨grown_trans hI.1 h2, fun h => by simp at h⟩, h2⟩
                · have := HKN.out; have := HLN.out; show ks.length + 1 ≤ _; omega
                · rcases h3 with h3 | h3
                  · exact Or.inl h3
                  · exact Or.inr ⟨_, h3, hB.size⟩
            · intro vs L W2 _ hI hall
              simp only [List.take, allHold, gives] at hall
              obtain ⟨h0, h1, h2, h3, h4, h5, h6, h7, h8, h9, h10, h11, h12, h13, h14, _⟩ := hall
              simp only [List.take, List.drop, putL]
              generalize vs 0 = v0 at *
              generalize vs 1 = v1 at *
              generalize vs 2 = v2 at *
              generalize vs 3 = v3 at *
              generalize vs 4 = v4 at *
              generalize vs 5 = v5 at *
              generalize vs 6 = v6 at *
              generalize vs 7 = v7 at *
              generalize vs 8 = v8 at *
              generalize vs 9 = v9 at *
              generalize vs 10 = v10 at *
              generalize vs 11 = v11 at *
              generalize vs 12 = v12 at *
              generalize vs 13 = v13 at *
              generalize vs 14 = v14 at *
              obtain ⟨q, rfl, _⟩ := h13
              obtain ⟨hO9, hn9⟩ := h14
              subst v0 v1 v2 v3 v4 v5 v6 v7 v8 v9 v10 v11 v12
              have HLk := Keep.mk (HL7.out.keyed hO9 hI.1 hn9)
              clear hI hO9 hn9 hRk hkb HL7 hpg hW7
              have b1 := HLk.out.r.b4.cell 1 _ rfl
              have f1 := HLk.out.r.b4.froz 1
              have pl := HLk.out.r.plt
              go_upto_region 31 with fail
              refine wp_world (fun W' => LsS W W' p g c (rs.map tokR) (J + 1) 0 whI _ _ (ks ++ [sx]) li) (HLk.out.call (set_grown _ p 1 _) (HLk.out.r.set_i (J + 1))) ?_
              clear HLk b1 f1 pl
              rintro w4 HL4
              replace HL4 := Keep.mk HL4
              by_cases hcol : (rk rs (J + 1)).e = 0 ∧ (rk rs (J + 1)).sign = 58
              · have hgk := HGK.out hcol
                have HGO := Keep.mk hgk.2
                have hJ3 := hgk.1
                have HW := Keep.mk (want_yes HL4.out.r hJ1 hlen 58 (by decide) (by decide) hcol)
                clear HGK hcol hgk
                go_wp2_with fail
                refine HW.out.mono ?_
                rintro r w6 ⟨rfl, hr6, hg6⟩
                have HL9 := Keep.mk (HL4.out.call hg6 (show RD w6 p g c (rs.map tokR) (J + 2) 0 whI from hr6))
                clear HL4 hr6 hg6 HW
                go_wp2_with fail
                refine (HIH.out (J + 2) _ p g c _ (by omega) hJ3 HL9.out.r).mono ?_
                rintro r w5 ⟨cs, rfl, hg5, hv5⟩
                rcases hv5 with ⟨v, j2, hJ5, hij, hj2, hr5, hgo5, hdv⟩ | ⟨e5, we5, j2, he5, hJ5, hr5, hf5⟩
                · have hq1 : Goes l rs (d + 1) (J + 2) j2 (fun st _ => (.off, st, v)) := hgo5; have hq2 : Goes l rs d i (J + 2) (fun st v0 => (.val, ⟨6, ks ++ [sx], li⟩ :: st, V v0)) := HGO.out; have HST5 := Keep.mk (stL_value (wh := whI) (gk := gk) (V := V) (d := d) (i := i) (J := J) (j2 := j2) (l := l) (rs := rs) (ks := ks ++ [sx]) (li := li) (v := v) hj2 hgk1 hnj2 hij hiJ hdp.out hdv hq2 hq1); clear hq1 hq2
                  have HJ5 := Keep.mk hJ5
                  have HG5 := Keep.mk hg5
                  have HR5 := Keep.mk hr5
                  clear hJ5 hg5 hr5 hgo5 hdv
                  obtain ⟨k9, m9, e9, s9, A9, n9, c9, A8, n8, c8, rfl⟩ := HJ5.out.cells
                  have HL5 := Keep.mk ((HL9.out.call HG5.out HR5.out).alloc (.cells (cells6 k9 m9 e9 s9 A9 n9 c9 A8 n8 c8).toArray 28))
                  have HF5 := Keep.mk (HL9.out.fresh_alloc HJ5.out (.cells (cells6 k9 m9 e9 s9 A9 n9 c9 A8 n8 c8).toArray 28))
                  have HX5 := Keep.mk (show Box (w5.alloc (.cells (cells6 k9 m9 e9 s9 A9 n9 c9 A8 n8 c8).toArray 28)) w5.heap.size (cells6 k9 m9 e9 s9 A9 n9 c9 A8 n8 c8) from Box.new _ _ rfl)
                  have HS5 := Keep.mk (show W.heap.size + 1 ≤ w5.heap.size by have h9 := lt_of_block (HL9.out.call HG5.out HR5.out).v; omega)
                  clear HJ5 HG5 HR5
                  simp only [cells6] at HL5 HF5 HX5 ⊢
                  go_wp2_with (at_builtin; refine wpList_append_vals rfl (.tmp 201) (.tmp 206) rfl (W.heap.size + 1) (StV (W.heap.size + 1) _ _ _) _ _ rfl HL5.out.l w5.heap.size _ _ rfl HX5.out.cell HF5.out ?_ ?_ ?_ ?_ ?_)
                  · have := HLN.out; omega
                  · have := HS5.out; simp; omega
                  · exact fun b hb hb2 => hb2.2.2.1 hb
                  · exact fun b hb => hb.2.1
                  · intro v6 w6 hO6 hg6 hv6
                    have HL6 := Keep.mk (HL5.out.grow hO6 hg6 (hv6.imp id (fun h => h.trans (by simp))))
                    clear hO6 hg6 hv6 HL5 HF5 HX5
                    go_wp2
                    go_roundg (gk - 1)
                    case rel => exact ⟨_, _, _, j2, _, _, _, _, rfl, rfl, rfl, by omega, by have := HLN.out; omega, ⟨by have h := HLN.out; simp only [List.length_append, List.length_singleton] at h ⊢; omega⟩, ⟨by have h := HKN.out; simp only [List.length_append, List.length_singleton] at h ⊢; omega⟩, HL6, HST5⟩
                    case measure => omega
                · have hq2 : Goes l rs d i (J + 2) (fun st v0 => (.val, ⟨6, ks ++ [sx], li⟩ :: st, V v0)) := HGO.out; have HST5 := Keep.mk (stL_bad (gk := gk) (V := V) (d := d) (i := i) (J := J) (j2 := j2) (l := l) (rs := rs) (ks := ks ++ [sx]) (li := li) (wh := whI) (e := e5) (we := we5) (lj := li ++ [zeroJ]) he5 (Nat.le_of_lt hJ3) hq2 hf5); clear hq2
                  have HJ5 := Keep.mk hJ5
                  have HG5 := Keep.mk hg5
                  have HR5 := Keep.mk hr5
                  clear hJ5 hg5 hr5 hf5
                  obtain ⟨k9, m9, e9, s9, A9, n9, c9, A8, n8, c8, rfl⟩ := HJ5.out.cells
                  have HL5 := Keep.mk ((HL9.out.call HG5.out HR5.out).alloc (.cells (cells6 k9 m9 e9 s9 A9 n9 c9 A8 n8 c8).toArray 28))
                  have HF5 := Keep.mk (HL9.out.fresh_alloc HJ5.out (.cells (cells6 k9 m9 e9 s9 A9 n9 c9 A8 n8 c8).toArray 28))
                  have HX5 := Keep.mk (show Box (w5.alloc (.cells (cells6 k9 m9 e9 s9 A9 n9 c9 A8 n8 c8).toArray 28)) w5.heap.size (cells6 k9 m9 e9 s9 A9 n9 c9 A8 n8 c8) from Box.new _ _ rfl)
                  have HS5 := Keep.mk (show W.heap.size + 1 ≤ w5.heap.size by have h9 := lt_of_block (HL9.out.call HG5.out HR5.out).v; omega)
                  clear HJ5 HG5 HR5
                  simp only [cells6] at HL5 HF5 HX5 ⊢
                  go_wp2_with (at_builtin; refine wpList_append_vals rfl (.tmp 201) (.tmp 206) rfl (W.heap.size + 1) (StV (W.heap.size + 1) _ _ _) _ _ rfl HL5.out.l w5.heap.size _ _ rfl HX5.out.cell HF5.out ?_ ?_ ?_ ?_ ?_)
                  · have := HLN.out; omega
                  · have := HS5.out; simp; omega
                  · exact fun b hb hb2 => hb2.2.2.1 hb
                  · exact fun b hb => hb.2.1
                  · intro v6 w6 hO6 hg6 hv6
                    have HL6 := Keep.mk (HL5.out.grow hO6 hg6 (hv6.imp id (fun h => h.trans (by simp))))
                    clear hO6 hg6 hv6 HL5 HF5 HX5
                    go_wp2
                    go_roundg (gk - 1)
                    case rel => exact ⟨_, _, _, j2, _, _, _, _, rfl, rfl, rfl, by omega, by have := HLN.out; omega, ⟨by have h := HLN.out; simp only [List.length_append, List.length_singleton] at h ⊢; omega⟩, ⟨by have h := HKN.out; simp only [List.length_append, List.length_singleton] at h ⊢; omega⟩, HL6, HST5⟩
                    case measure => omega
              · have HFA := Keep.mk (HFC.out hcol)
                have HW := Keep.mk (want_not HL4.out.r hJ1 hlen 58 (by decide) (by decide) hcol)
                have hfe := fault_ne (rk rs (J + 1)) (e := 60) (by decide)
                generalize faultE (rk rs (J + 1)) 60 = fe at *
                generalize (rk rs (J + 1)).at_ = fa at *
                replace hfe := Keep.mk hfe
                clear HGK HFC hcol
                go_wp2_with fail
                refine HW.out.mono ?_
                rintro r w6 ⟨rfl, hr6, hg6⟩
                have HL9 := Keep.mk (HL4.out.call hg6 hr6)
                clear HL4 hr6 hg6 HW
                go_wp2_with fail
                refine (value_er HL9.out.r hfe.out ((d : Int) + 1)).mono ?_
                rintro r w5 ⟨rfl, hr5, hg5⟩
                have HST5 := Keep.mk (show StL l rs d i 123 (gk - 1) (li ++ [zeroJ]).length (J + 1) fe whI fa (ks ++ [sx]) (li ++ [zeroJ]) from Or.inr ⟨hfe.out, fa, rfl, HFA.out⟩)
                have HJ5 := Keep.mk (zero_fresh hg5)
                have HG5 := Keep.mk hg5
                have HR5 := Keep.mk hr5
                clear hg5 hr5
                have HL5 := Keep.mk ((HL9.out.call HG5.out HR5.out).alloc (.cells (zero6).toArray 28))
                have HF5 := Keep.mk (HL9.out.fresh_alloc HJ5.out (.cells (zero6).toArray 28))
                have HX5 := Keep.mk (show Box (w5.alloc (.cells (zero6).toArray 28)) w5.heap.size (zero6) from Box.new _ _ rfl)
                have HS5 := Keep.mk (show W.heap.size + 1 ≤ w5.heap.size by have h9 := lt_of_block (HL9.out.call HG5.out HR5.out).v; omega)
                clear HJ5 HG5 HR5
                simp only [zero6, cells6] at HL5 HF5 HX5 ⊢
                go_wp2_with (at_builtin; refine wpList_append_vals rfl (.tmp 201) (.tmp 206) rfl (W.heap.size + 1) (StV (W.heap.size + 1) _ _ _) _ _ rfl HL5.out.l w5.heap.size _ _ rfl HX5.out.cell HF5.out ?_ ?_ ?_ ?_ ?_)
                · have := HLN.out; omega
                · have := HS5.out; simp; omega
                · exact fun b hb hb2 => hb2.2.2.1 hb
                · exact fun b hb => hb.2.1
                · intro v6 w6 hO6 hg6 hv6
                  have HL6 := Keep.mk (HL5.out.grow hO6 hg6 (hv6.imp id (fun h => h.trans (by simp))))
                  clear hO6 hg6 hv6 HL5 HF5 HX5
                  go_wp2
                  go_roundg (gk - 1)
                  case rel => exact ⟨_, _, _, (J + 1), _, _, _, _, rfl, rfl, rfl, by omega, by have := HLN.out; omega, ⟨by have h := HLN.out; simp only [List.length_append, List.length_singleton] at h ⊢; omega⟩, ⟨by have h := HKN.out; simp only [List.length_append, List.length_singleton] at h ⊢; omega⟩, HL6, HST5⟩
                  case measure => omega
          · have HFA := Keep.mk (fail_key HGO.out hj1 (by
              by_cases h1 : (rk rs (J)).sign = 0
              · by_cases h2 : (rk rs (J)).e = 0
                · exact Or.inr (Or.inr (fun h3 => hkey ⟨h1, h2, h3⟩))
                · exact Or.inr (Or.inl h2)
              · exact Or.inl h1))
            have hcs : (((tokR (rk rs (J))).sign : Int) != 0) = true ∨ ((((tokR (rk rs (J))).sign : Int) != 0) = false ∧ ((rk rs (J)).e != 0) = true) ∨ ((((tokR (rk rs (J))).sign : Int) != 0) = false ∧ ((rk rs (J)).e != 0) = false ∧ ((rk rs (J)).k != 4) = true) := by
              by_cases h1 : (rk rs (J)).sign = 0
              · have h1' := (tR_sign _ 0 (by decide) (by decide)).2 h1
                right
                by_cases h2 : (rk rs (J)).e = 0
                · right; exact ⟨by rw [h1']; rfl, by rw [h2]; rfl, by simpa using fun h3 => hkey ⟨h1, h2, h3⟩⟩
                · left; exact ⟨by rw [h1']; rfl, by simpa using h2⟩
              · left
                have h1' : (tokR (rk rs (J))).sign ≠ 0 := fun h => h1 ((tR_sign _ 0 (by decide) (by decide)).1 h)
                simp; omega
            have hfe := fault_ne (rk rs (J)) (e := 60) (by decide)
            have HFL := Keep.mk (fun (W' : World) (hr : RD W' p g c (rs.map tokR) (J) 0 whI) => ref6_fail hr hJ2 (by rw [mk_len]; omega) 60)
            rw [mk_at rs (J) hJ2, tR_fault, tR_at] at HFL
            generalize faultE (rk rs (J)) 60 = fe at *
            generalize (rk rs (J)).at_ = fa at *
            generalize (tokR (rk rs (J))).sign = sgx at *
            generalize (rk rs (J)).e = ex at *
            generalize (rk rs (J)).k = kx at *
            replace hfe := Keep.mk hfe
            clear hkey HGO
            rcases hcs with q1 | ⟨q1, q2⟩ | ⟨q1, q2, q3⟩
            all_goals
              go_upto_region 27 with fail
              refine wp_region_above (by kernel_rfl) (by kernel_rfl) ?_
              repeat (go_big_quiet_step (fail))
              refine wpQuiet_nil ?_
              rintro _ ⟨⟨w7, hb7⟩, rfl⟩
              have HL7 := Keep.mk (HL4.out.call (below_grown hb7) (HL4.out.r.below hb7))
              clear hb7 b0 b1 b2 pl gl c0 c1 c8
              go_wp2_with fail
              refine (HFL.out _ HL7.out.r).mono ?_
              rintro r w8 ⟨rfl, hr8, hg8⟩
              have HL8 := Keep.mk (HL7.out.call hg8 hr8)
              have HFI := Keep.mk (show FinL l rs d i 123 (J) fe whI fa ks li from Or.inr ⟨hfe.out, fa, rfl, HFA.out⟩)
              clear hr8 hg8 HL7
              go_wp2_with fail
              go_meet
              exact ⟨_, _, J, fe, fa, ks, li, rfl, rfl, HL8, HFI, ⟨by have := HLN.out; omega⟩, ⟨by have := HKN.out; omega⟩⟩
        · obtain ⟨hfe0, fa, rfl, hfa0⟩ := HD.out.resolve_left (fun h => her2 h.1)
          have hfb : (fe == 0) = false := by rw [beq_eq_false_iff_ne]; exact hfe0
          have HFA := Keep.mk hfa0
          have hfe := Keep.mk hfe0
          clear HD hfa0 hfe0 her2
          have b2 := HL4.out.r.b4.cell 2 _ rfl
          have pl := HL4.out.r.plt
          go_wp2_with fail
          refine (value_er HL4.out.r hfe.out ((d : Int) + 1)).mono ?_
          rintro r w5 ⟨rfl, hr5, hg5⟩
          have HST5 := Keep.mk (show StL l rs d i 123 (gk - 1) (li ++ [zeroJ]).length J fe whI fa ks (li ++ [zeroJ]) from Or.inr ⟨hfe.out, fa, rfl, HFA.out⟩)
          have HJ5 := Keep.mk (zero_fresh hg5)
          have HG5 := Keep.mk hg5
          have HR5 := Keep.mk hr5
          clear hg5 hr5
          have HL5 := Keep.mk ((HL4.out.call HG5.out HR5.out).alloc (.cells (zero6).toArray 28))
          have HF5 := Keep.mk (HL4.out.fresh_alloc HJ5.out (.cells (zero6).toArray 28))
          have HX5 := Keep.mk (show Box (w5.alloc (.cells (zero6).toArray 28)) w5.heap.size (zero6) from Box.new _ _ rfl)
          have HS5 := Keep.mk (show W.heap.size + 1 ≤ w5.heap.size by have h9 := lt_of_block (HL4.out.call HG5.out HR5.out).v; omega)
          clear HJ5 HG5 HR5
          simp only [zero6, cells6] at HL5 HF5 HX5 ⊢
          go_wp2_with (at_builtin; refine wpList_append_vals rfl (.tmp 201) (.tmp 206) rfl (W.heap.size + 1) (StV (W.heap.size + 1) _ _ _) _ _ rfl HL5.out.l w5.heap.size _ _ rfl HX5.out.cell HF5.out ?_ ?_ ?_ ?_ ?_)
          · have := HLN.out; omega
          · have := HS5.out; simp; omega
          · exact fun b hb hb2 => hb2.2.2.1 hb
          · exact fun b hb => hb.2.1
          · intro v6 w6 hO6 hg6 hv6
            have HL6 := Keep.mk (HL5.out.grow hO6 hg6 (hv6.imp id (fun h => h.trans (by simp))))
            clear hO6 hg6 hv6 HL5 HF5 HX5
            go_wp2
            go_roundg (gk - 1)
            case rel => exact ⟨_, _, _, J, _, _, _, _, rfl, rfl, rfl, by omega, by have := HLN.out; omega, ⟨by have h := HLN.out; simp only [List.length_append, List.length_singleton] at h ⊢; omega⟩, ⟨by have h := HKN.out; simp only [List.length_append, List.length_singleton] at h ⊢; omega⟩, HL6, HST5⟩
            case measure => omega
  case rest =>
    clear HL HIH
    obtain ⟨vk, vl, j, er, whI, ks, li, rfl, rfl, HL, HFI, HLN, HKN⟩ := hcut
    by_cases her : er = 0
    case neg =>
      obtain ⟨_, wf, hwf, hfa⟩ := HFI.out.resolve_left (fun h => her h.1)
      subst hwf
      have HFA := Keep.mk hfa
      have HNE := Keep.mk her
      have herb : (er != 0) = true := by simpa using her
      clear HFI hfa her
      go_wp2_with fail
      refine (want_er HL.out.r HNE.out 125).mono ?_
      rintro r w3 ⟨rfl, hr3, hg3⟩
      have HL3 := Keep.mk (HL.out.call hg3 hr3)
      clear HL hr3 hg3
      have b2 := HL3.out.r.b4.cell 2 _ rfl
      have pl := HL3.out.r.plt
      have r0 := HL3.out.v.box.cell 0 _ rfl
      have z0 := HL3.out.v.box.froz 0
      have r1 := HL3.out.v.box.cell 1 _ rfl
      have z1 := HL3.out.v.box.froz 1
      have r2 := HL3.out.v.box.cell 2 _ rfl
      have z2 := HL3.out.v.box.froz 2
      have r3 := HL3.out.v.box.cell 3 _ rfl
      have z3 := HL3.out.v.box.froz 3
      have r4 := HL3.out.v.box.cell 4 _ rfl
      have z4 := HL3.out.v.box.froz 4
      have r5 := HL3.out.v.box.cell 5 _ rfl
      have z5 := HL3.out.v.box.froz 5
      have hrl := HL3.out.v.box.lt
      have HRE := Keep.mk (HL3.out.r.keep (W' := six w3 W.heap.size (.int .i64 0) (.int .i64 0) (.int .i64 0) (.string ⟨#[]⟩) (.slice none 0 0) (.slice none 0 0)) (six_other _ _ _ _ _ _ _ _ _ (by omega)) (six_other _ _ _ _ _ _ _ _ _ (by omega)) (by simp [six]))
      have HBE := Keep.mk (grown_new HL3.out.b (six_grown w3 W.heap.size (.int .i64 0) (.int .i64 0) (.int .i64 0) (.string ⟨#[]⟩) (.slice none 0 0) (.slice none 0 0)) (Nat.le_refl _))
      go_wp2
      refine bodyPost_ret (v := .agg (List.toArray zero6)) ?_ rfl ⟨zero6, rfl, HBE.out, Or.inr ⟨_, _, _, HNE.out, zero_in _ _, HRE.out, HFA.out⟩⟩
      simp [zero6, cells6, results, Tryz.results15, go_sem, r0, r1, r2, r3, r4, r5]
    case pos =>
      subst her
      obtain ⟨_, rfl, hj, hend, hj1, hij, hgo, hdf⟩ := HFI.out.resolve_right (fun h => h.1 rfl)
      have HGO := Keep.mk (show Goes l rs d i (j + 1) (fun st _ => (.off, st, (makeJ ks li).1)) from hgo)
      have HDF := Keep.mk hdf
      have HDM := Keep.mk (show depthJ (makeJ ks li).1 + d ≤ 96 by have := makeJ_depth ks li; omega)
      clear hdf
      have HW := Keep.mk (want_yes HL.out.r hj hlen 125 (by decide) (by decide) hend)
      clear HFI hend hgo
      go_wp2_with fail
      refine HW.out.mono ?_
      rintro r w3 ⟨rfl, hr3, hg3⟩
      have HL3 := Keep.mk (HL.out.call hg3 hr3)
      clear HL hr3 hg3 HW
      obtain ⟨A5, c5, hvl, hc1, hc2⟩ := HL3.out.l.form
      rw [hvl] at HL3 ⊢
      clear hvl hc1 hc2
      obtain ⟨A6, c6, hvk, hc1, hc2⟩ := HL3.out.k.form
      rw [hvk] at HL3 ⊢
      clear hvk hc1 hc2
      have b2 := HL3.out.r.b4.cell 2 _ rfl
      have pl := HL3.out.r.plt
      have hv0 := lt_of_block HL3.out.v
      have HMK := Keep.mk (ref3_Make (SK := fun b => W.heap.size + 1 ≤ b ∧ b < w3.heap.size) (S := StV (W.heap.size + 1) w3 (.slice A5 li.length c5) (.slice A6 ks.length c6)) (T := fun b => W.heap.size + 1 ≤ b ∧ b < w3.heap.size) ks li A6 c6 A5 c5 w3 (fun b hb => hb.2) (fun b hb => hb.2.1) (fun b hb => hb.2)
        (HL3.out.k.strs (T := fun b => W.heap.size + 1 ≤ b ∧ b < w3.heap.size) (by have := HKN.out; omega) (fun b hb => HL3.out.k.lt b hb)).2
        (HL3.out.l.from_ (T := fun b => W.heap.size + 1 ≤ b ∧ b < w3.heap.size) (by have := HLN.out; omega) (fun b hb => HL3.out.l.lt b hb)).2
        (by have := HKN.out; omega) (by have := HLN.out; omega) (fun q hq => by have := HDF.out; have := depthL_at li q hq; omega))
      go_wp2_with fail
      refine HMK.out.mono ?_
      rintro r w4 ⟨cs, rfl, hJ4, hb4⟩
      have HL4 := Keep.mk (HL3.out.call (below_grown hb4) (HL3.out.r.below hb4))
      have HJ4 := Keep.mk (hJ4.more (T := newIn W w4) (fun b hb => by
        rcases hb with hb | hb
        · exact ⟨by have := hb.1; omega, Nat.lt_of_lt_of_le hb.2.1 hb4.size⟩
        · exact ⟨by have := hb.1; omega, hb.2⟩))
      have HJX := Keep.mk (show ∀ b, StV (W.heap.size + 1) w3 (.slice A5 li.length c5) (.slice A6 ks.length c6) b ∨ newIn w3 w4 b → W.heap.size + 1 ≤ b ∧ b < w4.heap.size from fun b hb => by
        rcases hb with hb | hb
        · exact ⟨hb.1, Nat.lt_of_lt_of_le hb.2.1 hb4.size⟩
        · exact ⟨by have := hb.1; omega, hb.2⟩)
      have HJ5 := Keep.mk (hJ4.more HJX.out)
      clear hb4 hJ4 HL3 HMK HJX HJ4 b2 pl hv0
      obtain ⟨k9, m9, e9, s9, A9, n9, c9, A8, n8, c8, rfl⟩ := HJ5.out.cells
      have HX5 := Keep.mk (show Box (w4.alloc (.cells (cells6 k9 m9 e9 s9 A9 n9 c9 A8 n8 c8).toArray 28)) w4.heap.size (cells6 k9 m9 e9 s9 A9 n9 c9 A8 n8 c8) from Box.new _ _ rfl)
      have HL5 := Keep.mk (HL4.out.alloc (.cells (cells6 k9 m9 e9 s9 A9 n9 c9 A8 n8 c8).toArray 28))
      have HJ6 := Keep.mk (HJ5.out.keep (W' := w4.alloc (.cells (cells6 k9 m9 e9 s9 A9 n9 c9 A8 n8 c8).toArray 28)) (T := fun b => W.heap.size + 1 ≤ b ∧ b < (w4.alloc (.cells (cells6 k9 m9 e9 s9 A9 n9 c9 A8 n8 c8).toArray 28)).heap.size) (fun b hb => (al1 w4 _).block b hb.2) (fun b hb => ⟨hb.1, Nat.lt_of_lt_of_le hb.2 (al1 w4 _).size⟩))
      clear HJ5 HL4
      generalize (makeJ ks li).2 = me at *
      simp only [cells6] at HX5 HL5 HJ6 ⊢
      go_upto_region 39 with fail
      refine wp_world (fun W' => ∃ q, q = w4.heap.size ∧ Box W' q (cells6 k9 m9 e9 s9 A9 n9 c9 A8 n8 c8) ∧ LsS W W' p g c (rs.map tokR) (j + 1) 0 _ _ _ ks li ∧ JIn W' (fun b => W.heap.size + 1 ≤ b ∧ b < W'.heap.size) (makeJ ks li).1 (cells6 k9 m9 e9 s9 A9 n9 c9 A8 n8 c8)) ⟨_, rfl, HX5.out, HL5.out, HJ6.out⟩ ?_
      clear HX5 HL5 HJ6
      rintro w5 ⟨q, hq, HX5, HL5, HJ6⟩
      rw [← hq]
      clear hq
      replace HL5 := Keep.mk HL5
      replace HJ6 := Keep.mk HJ6
      have x0 := HX5.cell 0 _ rfl
      have x1 := HX5.cell 1 _ rfl
      have x2 := HX5.cell 2 _ rfl
      have x3 := HX5.cell 3 _ rfl
      have x4 := HX5.cell 4 _ rfl
      have x5 := HX5.cell 5 _ rfl
      have xl := HX5.lt
      clear HX5
      have r0 := HL5.out.v.box.cell 0 _ rfl
      have z0 := HL5.out.v.box.froz 0
      have r1 := HL5.out.v.box.cell 1 _ rfl
      have z1 := HL5.out.v.box.froz 1
      have r2 := HL5.out.v.box.cell 2 _ rfl
      have z2 := HL5.out.v.box.froz 2
      have r3 := HL5.out.v.box.cell 3 _ rfl
      have z3 := HL5.out.v.box.froz 3
      have r4 := HL5.out.v.box.cell 4 _ rfl
      have z4 := HL5.out.v.box.froz 4
      have r5 := HL5.out.v.box.cell 5 _ rfl
      have z5 := HL5.out.v.box.froz 5
      have hrl := HL5.out.v.box.lt
      have HJ := Keep.mk (show JIn (six w5 W.heap.size (.int .i64 k9) (.int .i64 m9) (.int .i64 e9) (.string s9) (.slice A9 n9 c9) (.slice A8 n8 c8)) (newIn W (six w5 W.heap.size (.int .i64 k9) (.int .i64 m9) (.int .i64 e9) (.string s9) (.slice A9 n9 c9) (.slice A8 n8 c8))) (makeJ ks li).1 (cells6 k9 m9 e9 s9 A9 n9 c9 A8 n8 c8) from
        HJ6.out.keep (fun b hb => six_other _ _ _ _ _ _ _ _ _ (by have := hb.1; omega)) (fun b hb => ⟨by have := hb.1; omega, by have := hb.2; simpa [six] using this⟩))
      have HRE := Keep.mk (HL5.out.r.keep (W' := six w5 W.heap.size (.int .i64 k9) (.int .i64 m9) (.int .i64 e9) (.string s9) (.slice A9 n9 c9) (.slice A8 n8 c8)) (six_other _ _ _ _ _ _ _ _ _ (by omega)) (six_other _ _ _ _ _ _ _ _ _ (by omega)) (by simp [six]))
      have HBE := Keep.mk (grown_new HL5.out.b (six_grown w5 W.heap.size (.int .i64 k9) (.int .i64 m9) (.int .i64 e9) (.string s9) (.slice A9 n9 c9) (.slice A8 n8 c8)) (Nat.le_refl _))
      clear HJ6 HL5
      go_wp2
      refine bodyPost_ret (v := .agg (List.toArray (cells6 k9 m9 e9 s9 A9 n9 c9 A8 n8 c8))) ?_ rfl ⟨_, rfl, HBE.out, Or.inl ⟨_, j + 1, HJ.out, hij, hj1, HRE.out, HGO.out, HDM.out⟩⟩
      simp [cells6, results, Tryz.results15, go_sem, r0, r1, r2, r3, r4, r5]
end Go.Proofs.YtbngjlkmpdccjaaGreatDoor
