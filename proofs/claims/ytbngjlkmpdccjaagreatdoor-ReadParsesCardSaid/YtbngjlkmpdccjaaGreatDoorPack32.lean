/- Lemmas and contracts for the laws ReadParses, ReadBytes, part 32 of 50: RefParse. Conditions: those that each lemma names. -/
import Derived.Test.YtbngjlkmpdccjaaGreatDoorPack16
import Derived.Test.YtbngjlkmpdccjaaGreatDoorPack17
import Derived.Test.YtbngjlkmpdccjaaGreatDoorPack13
import Derived.Test.YtbngjlkmpdccjaaGreatDoorPack30
import Derived.Deep.RegionHeld3
import Derived.IntWalk
import Derived.Deep.DrawnRows
namespace Go.Proofs.YtbngjlkmpdccjaaGreatDoor
open Go Go.RowKit Go.Proofs Th
attribute [local go_sem] Above.cell
attribute [local go_sem ↓] Go.wp_at_zero Go.wp_at_succ
theorem form_bad (l : List UInt8) (h : ¬ okF l) : ∃ a b : Int, formR l = .tuple #[.int .i64 a, .int .i64 b, .bool false] := by
  unfold formR
  by_cases h1 : bad1 l ∨ bad2 l ∨ bad3 l
  · rw [if_pos h1]; exact ⟨_, _, rfl⟩
  · rw [if_neg h1, decide_eq_false (fun h2 => h ⟨h1, h2⟩)]; exact ⟨_, _, rfl⟩
theorem form_good (l : List UInt8) (h : okF l) : formR l = .tuple #[.int .i64 (wP l), .int .i64 (fP l), .bool true] := by
  unfold formR
  rw [if_neg h.1, decide_eq_true h.2]
theorem DivS.below {W5 wr w' : World} {g : Nat} {neg : Bool} {E : Int} {v : Value} {qs : List Nat} (h : DivS W5 wr g neg E v qs) (hb : Below wr.heap.size wr w') : DivS W5 w' g neg E v qs :=
  ⟨h.box.below hb h.box.lt, h.own.below hb (Nat.le_refl _), h.old.trans (hb.mono (Nat.le_of_lt h.box.lt))⟩
set_option maxRecDepth 100000 in
theorem rparse_bad (s : ByteArray) (hs : s.size ≤ 100000) (h : ¬ okF s.data.toList) (w : World) : Calls Tryz.prog 40 #[.string s] w fun r w' => r = .returned (numRes ((0, 0), 10)) ∧ Below w.heap.size w w' := by
  obtain ⟨a, b, hF⟩ := form_bad _ h
  have HF := Keep.mk hF
  clear hF h
  go_enter Tryz.func40, Tryz.ntmps40
  go_wp2_with fail
  refine (ref_Form s (by omega) _).mono ?_
  rw [HF.out]
  rintro r W1 ⟨rfl, hb⟩
  have Hr := Keep.mk ((Box.new (w := w) (n := w.heap.size) [.int .i64 0, .int .i64 0] 24 rfl).below hb (by simp))
  have HB := Keep.mk (up (al1 w _) hb)
  have rc0 := Hr.out.cell 0 _ rfl
  have rc1 := Hr.out.cell 1 _ rfl
  have rf0 := Hr.out.froz 0
  have rf1 := Hr.out.froz 1
  have rl := Hr.out.lt
  go_wp2
  refine bodyPost_ret (v := numRes ((0, 0), 10)) ?_ rfl ⟨rfl, st1 (st1 HB.out _ _ _ (by omega)) _ _ _ (by omega)⟩
  simp [numRes, results, Tryz.results40, go_sem, rc0, rc1]
set_option maxRecDepth 100000 in
set_option maxHeartbeats 4000000 in
theorem rparse_good (s : ByteArray) (hs : s.size ≤ 100000) (h : okF s.data.toList) (neg : Bool) (hneg : decide (s.data.toList.head? = some 45) = neg) (wp fp : Nat) (hw : wP s.data.toList = wp) (hf : fP s.data.toList = fp) (hwf : wp ≤ fp) (hfs : fp ≤ s.size) (hs0 : 0 < s.size)
    (E : Int) (hE : powR (s.data.toList.drop fp) = E) (hE0 : -10000000 ≤ E) (hE1 : E ≤ 10000000) (p q k : Int) (hr : norm neg (val (dgs (digL s.data.toList fp))) (E - cntE s.data.toList wp fp) = ((p, q), k)) (w : World) :
    Calls Tryz.prog 40 #[.string s] w fun r w' => r = .returned (numRes ((p, q), k)) ∧ Below w.heap.size w w' := by
  have HF := Keep.mk (form_good _ h)
  rw [hw, hf] at HF
  have HR := Keep.mk hr
  have hsb : ((s[0].toNat : Int) == 45) = neg := by
    rw [← hneg]
    have : s.data.toList.head? = some s[0] := head_list s hs0
    rw [this]
    by_cases h45 : s[0].toNat = 45
    · have h2 : s[0] = 45 := UInt8.toNat.inj h45
      rw [h2]; rfl
    · have h2 : s[0] ≠ 45 := fun h => h45 (by rw [h]; rfl)
      simp [h2]; omega
  have HPW := Keep.mk (fun w => show Calls Tryz.prog 64 #[.string (s.extract fp s.size)] w fun r w' => r = .returned (.int .i64 E) ∧ Below w.heap.size w w' from by
    have := ref_power (s.extract fp s.size) (by rw [ByteArray.size_extract]; omega) w
    rw [ext_to, hE] at this
    exact this)
  clear h hr hneg hw hf hE
  go_enter Tryz.func40, Tryz.ntmps40
  go_wp2_with fail
  refine (ref_Form s (by omega) _).mono ?_
  rw [HF.out]
  rintro r W1 ⟨rfl, hb⟩
  have Hr := Keep.mk ((Box.new (w := w) (n := w.heap.size) [.int .i64 0, .int .i64 0] 24 rfl).below hb (by simp))
  have HB := Keep.mk (up (al1 w _) hb)
  clear hb
  have rl := Hr.out.lt
  go_upto_region 4 with fail
  go_cut [7] (fun s7 wx => ∃ g : Nat, s7 = .pointer (some ⟨g, 0, none⟩) ∧ w.heap.size < g ∧ Keep (Box wx g [.bool neg, .slice none 0 0, .int .i64 E]) ∧ Keep (Below W1.heap.size W1 wx))
  case first =>
    go_region_held3 (fun w' => Below W1.heap.size W1 w')
      (first | assumption | exact HB1.out | exact below_drew _ | exact up (by assumption) (by assumption) | exact up HB1.out (al1 _ _) | exact up (by assumption) (al1 _ _) | exact st1 (st1 (st1 HB1.out _ _ _ (by omega)) _ _ _ (by omega)) _ _ _ (by omega))
      ((go_at_call 64; refine (HPW.out _).mono ?_; rintro r V1 ⟨rfl, hb1⟩; have HB1 : Keep (Below W1.heap.size W1 V1) := Keep.mk (up (by assumption) hb1); have sz1 := HB1.out.size; (try have BZ := Keep.mk (((Box.new (w := W1) (n := W1.heap.size) [.bool false, .slice none 0 0, .int .i64 0] 114 rfl).below (below_drew _) (by simp only [World.size_alloc]; exact Nat.lt_succ_self _)).below hb1 (by show W1.heap.size < (W1.alloc _).heap.size; simp only [World.size_alloc]; exact Nat.lt_succ_self _))); (try (have szB := BZ.out.lt; have z0 := BZ.out.cell 0 _ rfl; have z1 := BZ.out.cell 1 _ rfl; have z2 := BZ.out.cell 2 _ rfl; have zg0 := BZ.out.froz 0; have zg1 := BZ.out.froz 1; have zg2 := BZ.out.froz 2))))
    all_goals
      go_wp2_with fail
      go_meet
      first
        | exact ⟨_, rfl, by omega, ⟨((BZ.out.set (by simp) _).set (by simp) _).set (by simp) _⟩, ⟨by assumption⟩⟩
        | exact ⟨_, rfl, by omega, ⟨Box.new [.bool neg, .slice none 0 0, .int .i64 _] _ rfl⟩, ⟨by assumption⟩⟩
  case rest =>
    obtain ⟨g, rfl, hg, Hx, HB1⟩ := hcut
    generalize wc = W2 at *
    have HRS := Keep.mk (Hr.out.below HB1.out Hr.out.lt)
    have HO := Keep.mk (up HB.out HB1.out)
    have HSS := Keep.mk (show DivS W2 W2 g neg E (.slice none 0 0) [] from ⟨Hx.out, OwnInts.nil _ _, Below.refl _ _⟩)
    have ql := Hx.out.lt
    clear Hr HB HB1 Hx
    go_upto_block 0 with fail
    go_cut [8] (fun s8 wx => ∃ (v : Value), Keep (DivS W2 wx g neg (E - cntE s.data.toList wp fp) v (dgs (digL s.data.toList fp))))
    case first =>
      go_wp2_with fail
      go_loopg [8] fp (fun gk i wr => ∃ (v : Value) (k : Nat), k + gk = fp ∧ i = .int .i64 k ∧ Keep (DivS W2 wr g neg (E - cntE s.data.toList wp k) v (dgs (digL s.data.toList k))))
      case atStart => exact ⟨_, 0, by omega, rfl, ⟨by rw [digL_zero, cntE_zero]; have := HSS.out; simpa [dgs] using this⟩⟩
      case round =>
        clear HSS
        obtain ⟨v, k, hk, rfl, HS⟩ := hrel
        by_cases hlk : k < fp
        · have hks : k < s.size := by omega
          have hgk : gk ≠ 0 := by omega
          have HC := Keep.mk (fun w => ref_digit s[k] w)
          have HD := Keep.mk (digL_step s.data.toList k s[k] (get_at s k hks))
          have HN := Keep.mk (cntE_step s.data.toList wp k s[k] (get_at s k hks))
          have hcn := cntE_le s.data.toList wp k
          have hdl := digL_le s.data.toList k
          cases hd : digB s[k]
          · have hd2 : isDg s[k] = false := hd
            have HE1 := Keep.mk (show digL s.data.toList (k + 1) = digL s.data.toList k by rw [HD.out, hd2]; simp)
            have HE2 := Keep.mk (show cntE s.data.toList wp (k + 1) = cntE s.data.toList wp k by rw [HN.out, hd2]; simp)
            clear hd2
            go_wp2_with fail
            refine (HC.out _).mono ?_
            rw [hd]
            rintro r w1 ⟨rfl, hb1⟩
            go_wp2
            go_roundg (gk - 1)
            case rel => exact ⟨v, k + 1, by omega, by go_num, ⟨by rw [HE1.out, HE2.out]; exact HS.out.below hb1⟩⟩
            case measure => omega
          · have hd2 : isDg s[k] = true := hd
            have hdg : 48 ≤ s[k].toNat ∧ s[k].toNat ≤ 57 := by unfold digB at hd; simpa using hd
            obtain ⟨hd48, hd57⟩ := hdg
            obtain ⟨qd, hqd⟩ : ∃ q : Nat, (s[k].toNat : Int) - 48 = q := ⟨s[k].toNat - 48, by omega⟩
            have hqe : dg s[k] = qd := by unfold dg; omega
            have HE1 := Keep.mk (show dgs (digL s.data.toList (k + 1)) = dgs (digL s.data.toList k) ++ [qd] by rw [HD.out, if_pos hd2, dgs_append, ← hqe]; rfl)
            have HE2 := Keep.mk (show cntE s.data.toList wp (k + 1) = cntE s.data.toList wp k + if wp < k then 1 else 0 by rw [HN.out, hd2]; simp)
            have hqsl : (dgs (digL s.data.toList k)).length ≤ 100000 := by rw [dgs_length]; omega
            generalize hqs : dgs (digL s.data.toList k) = qs at *
            generalize hcc : cntE s.data.toList wp k = cc at *
            obtain ⟨E2, hE2⟩ : ∃ e : Int, E - cc = e := ⟨_, rfl⟩
            have hE20 : -20000000 ≤ E2 := by omega
            have hE21 : E2 ≤ 20000000 := by omega
            have HEE := Keep.mk hE2
            rw [hE2] at HS
            clear hd2 hqe hqs hcc hE2 HD HN hcn hdl
            go_wp2_with fail
            refine (HC.out _).mono ?_
            rw [hd]
            rintro r w1 ⟨rfl, hb1⟩
            replace HS := Keep.mk (HS.out.below hb1)
            clear hb1
            have q1 := HS.out.box.cell 1 _ rfl
            have q2 := HS.out.box.cell 2 _ rfl
            have qf1 := HS.out.box.froz 1
            have qf2 := HS.out.box.froz 2
            have lq := HS.out.box.lt
            have hws := HS.out.old.size
            have w8 : IntKind.i64.wrap (s[k].toNat : Int) = s[k].toNat := IntWalk.i64_in _ (by omega)
            have w9 : IntKind.i64.wrap ((s[k].toNat : Int) - 48) = qd := by rw [hqd]; exact IntWalk.i64_in _ (by omega)
            have w10 : IntKind.i64.wrap (qd : Int) = qd := IntWalk.i64_in _ (by omega)
            go_wp2_with fail
            go_region_law ((refine step_append_ints rfl (.tmp 36) (.tmp 42) rfl W2.heap.size v qs (by simp [Act.eval]) (by first | exact HS.out.own.alloc _ | exact (HS.out.own.below (below_drew _) (Nat.le_refl _)).alloc _ | exact (HS.out.own.alloc _).below (below_drew _) (Nat.le_refl _)) _ _ 1 1 [qd] rfl (by simp [Act.eval]; rfl) (by first | exact IntsAt.one _ qd rfl rfl | exact (IntsAt.one _ qd rfl rfl).below (below_drew _) (by simp)) (by simp; omega) (by simp; omega) ?_; intro v2 w2 hown2 hb2; have HX2 := Keep.mk (arm_box hb2 (by first | exact al1 _ _ | exact up (below_drew _) (al1 _ _) | exact up (al1 _ _) (below_drew _)) HS.out.box ql); have HB2 := Keep.mk (arm_below hb2 (by first | exact al1 _ _ | exact up (below_drew _) (al1 _ _) | exact up (al1 _ _) (below_drew _)) HS.out.old (Nat.le_of_lt ql) (Nat.le_of_lt HS.out.box.lt)); have z1 := HX2.out.cell 1 _ rfl; have z2 := HX2.out.cell 2 _ rfl; have f1 := HX2.out.froz 1; have f2 := HX2.out.froz 2; obtain ⟨A9, c9, rfl, _⟩ := hown2.ints; have HO2 := Keep.mk hown2; clear hown2 hb2))
            all_goals
              by_cases hwk : wp < k
              · go_wp2
                go_roundg (gk - 1)
                case rel => exact ⟨.slice A9 (qs.length + 1) c9, k + 1, by omega, by go_num, ⟨by
                  rw [HE1.out, HE2.out, if_pos hwk, show E - ((cc + 1 : Nat) : Int) = E2 - 1 by have := HEE.out; omega]
                  exact ⟨(HX2.out.set (by simp) _).set (by simp) _, by
                    have h := (HO2.out.set ql (o := 1) (.slice A9 (qs.length + 1) c9)).set ql (o := 2) (.int .i64 (E2 - 1))
                    rw [show (qs ++ [qd]).length = qs.length + 1 by simp] at h; exact h, (HB2.out.setCell (p := ⟨g, 1, none⟩) (Nat.le_refl _) _).setCell (p := ⟨g, 2, none⟩) (Nat.le_refl _) _⟩⟩⟩
                case measure => omega
              · go_wp2
                go_roundg (gk - 1)
                case rel => exact ⟨.slice A9 (qs.length + 1) c9, k + 1, by omega, by go_num, ⟨by
                  rw [HE1.out, HE2.out, if_neg hwk, show E - ((cc + 0 : Nat) : Int) = E2 by have := HEE.out; omega]
                  exact ⟨HX2.out.set (by simp) _, by
                    have h := HO2.out.set ql (o := 1) (.slice A9 (qs.length + 1) c9)
                    rw [show (qs ++ [qd]).length = qs.length + 1 by simp] at h; exact h, HB2.out.setCell (p := ⟨g, 1, none⟩) (Nat.le_refl _) _⟩⟩⟩
                case measure => omega
        · obtain rfl : k = fp := by omega
          go_wp2_with fail
          go_meet
          exact ⟨v, HS⟩
    case rest =>
      clear HSS
      obtain ⟨v, HS⟩ := hcut
      have HR0 := Keep.mk (HRS.out.below HS.out.old hg)
      have r0 := HR0.out.cell 0 _ rfl
      have r1 := HR0.out.cell 1 _ rfl
      have rf0 := HR0.out.froz 0
      have rf1 := HR0.out.froz 1
      have rl := HR0.out.lt
      have HBW := Keep.mk (HO.out.trans (HS.out.old.mono (Nat.le_of_lt hg)))
      obtain ⟨A9, c9, rfl, hI9⟩ := HS.out.own.ints
      have q0 := HS.out.box.cell 0 _ rfl
      have q1 := HS.out.box.cell 1 _ rfl
      have q2 := HS.out.box.cell 2 _ rfl
      have HD9 := Keep.mk (dgs_all _ (digL_dig s.data.toList fp))
      have hqn : (dgs (digL s.data.toList fp)).length ≤ 100000 := by rw [dgs_length]; have := digL_le s.data.toList fp; omega
      have hcn := cntE_le s.data.toList wp fp
      generalize dgs (digL s.data.toList fp) = qs at *
      generalize hE2 : E - (cntE s.data.toList wp fp : Int) = E2 at *
      have hE20 : -20000000 ≤ E2 := by omega
      have hE21 : E2 ≤ 20000000 := by omega
      clear hE2 hcn
      go_wp2_with fail
      refine (short_as neg A9 c9 qs E2 HD9.out (by omega) (by omega) p q k HR.out _ hI9).mono ?_
      rintro r V2 ⟨rfl, hb2⟩
      have HQ2 := Keep.mk (HR0.out.below hb2 HR0.out.lt)
      clear r0 r1 rf0 rf1 rl
      have r0 := HQ2.out.cell 0 _ rfl
      have r1 := HQ2.out.cell 1 _ rfl
      have rf0 := HQ2.out.froz 0
      have rf1 := HQ2.out.froz 1
      go_wp2
      refine bodyPost_ret (v := numRes ((p, q), k)) ?_ rfl ⟨rfl, st1 (st1 (up HBW.out hb2) _ _ _ (by omega)) _ _ _ (by omega)⟩
      simp [numRes, results, Tryz.results40, go_sem, r0, r1]
theorem size_list' (s : ByteArray) : s.data.toList.length = s.size := by simp
theorem powR_le (l : List UInt8) : -10000000 ≤ powR l ∧ powR l ≤ 10000000 := by
  have := powN_le l
  unfold powR
  split <;> omega
theorem ref_Parse (s : ByteArray) (hs : s.size ≤ 100000) (w : World) : Calls Tryz.prog 40 #[.string s] w fun r w' => r = .returned (numRes (parseN s.data.toList)) ∧ Below w.heap.size w w' := by
  by_cases h : okF s.data.toList
  · obtain ⟨en, x, he, hp⟩ := parse_good _ h
    have hfl := fP_le s.data.toList
    rw [size_list'] at hfl
    have hs0 : 0 < s.size := by
      rcases Nat.eq_zero_or_pos s.size with h0 | h0
      · exfalso
        refine h.1 (Or.inl (Or.inl ?_))
        have h1 := wP_le s.data.toList
        rw [size_list'] at h1
        omega
      · exact h0
    have hv : val (dgs (digL s.data.toList (fP s.data.toList))) < 10 ^ (dgs (digL s.data.toList (fP s.data.toList))).length := val_lt _ (dgs_all _ (digL_dig _ _))
    have hal := norm_alike (decide (s.data.toList.head? = some 45)) (val (dgs (digL s.data.toList (fP s.data.toList)))) _ _ _ (cntE s.data.toList (wP s.data.toList) (fP s.data.toList)) hv
      (by rw [dgs_length]; have := digL_le s.data.toList (fP s.data.toList); omega) (by have := cntE_le s.data.toList (wP s.data.toList) (fP s.data.toList); omega) (powR_alike _ _ _ he)
    rw [hp, ← cntE_end]
    obtain ⟨⟨⟨p, q⟩, k⟩, hr⟩ : ∃ x, norm (decide (s.data.toList.head? = some 45)) (val (dgs (digL s.data.toList (fP s.data.toList)))) (powR (s.data.toList.drop (fP s.data.toList)) - cntE s.data.toList (wP s.data.toList) (fP s.data.toList)) = x := ⟨_, rfl⟩
    have hpr := powR_le (s.data.toList.drop (fP s.data.toList))
    have := rparse_good s hs h _ rfl _ _ rfl rfl hfl.1 hfl.2 hs0 _ rfl hpr.1 hpr.2 p q k hr w
    rw [show norm (decide (s.data.toList.head? = some 45)) (val (dgs ((s.data.toList.take (fP s.data.toList)).filter isDg))) (sg en (clampN x) - (cntE s.data.toList (wP s.data.toList) (fP s.data.toList) : Nat)) = ((p, q), k) from hal.symm.trans hr]
    exact this
  · rw [parse_bad _ h]
    exact rparse_bad s hs h w
end Go.Proofs.YtbngjlkmpdccjaaGreatDoor
