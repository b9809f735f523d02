/- Lemmas and contracts for the laws CalcWith, part 46 of 50: WithR. Conditions: those that each lemma names. -/
import Derived.Test.YtnkokhpadcgfbaaGreatDoorPw37
import Derived.Test.YtnkokhpadcgfbaaGreatDoorPw42
import Derived.Test.YtnkokhpadcgfbaaGreatDoorPw43
namespace Go.Proofs.YtnkokhpadcgfbaaGreatDoor
open Go Go.RowKit Go.Proofs Th
attribute [local go_sem] Above.cell
@[local go_sem] theorem fld_num (m e : Int) (w : World) : (Instr.field 27 (.agg #[.int .i64 3, .int .i64 m, .int .i64 e, .string ⟨#[]⟩, .slice none 0 0, .slice none 0 0]) 1).run Tryz.prog w = .ok (.agg #[.int .i64 m, .int .i64 e]) w := by kernel_rfl
set_option maxRecDepth 100000 in
set_option maxHeartbeats 4000000 in
theorem rwith_name (name : ByteArray) (a b : JV) (w : World) (k m e : Int) (s : ByteArray) (A : Option Addr) (n c : Nat) (A' : Option Addr) (n' c' : Nat) (k2 m2 e2 : Int) (s2 : ByteArray) (B : Option Addr) (n2 d : Nat) (B' : Option Addr) (n2' d' : Nat) (_hJ : JAt w w.heap.size a (cells6 k m e s A n c A' n' c')) (_hJ2 : JAt w w.heap.size b (cells6 k2 m2 e2 s2 B n2 d B' n2' d')) (h1 : (name.toList == [104, 97, 115]) = false) (h2 : (name.toList == [106, 111, 105, 110]) = false) :
    Calls Tryz.prog 17 #[.string name, .agg #[.int .i64 k, .int .i64 m, .int .i64 e, .string s, .slice A n c, .slice A' n' c'], .agg #[.int .i64 k2, .int .i64 m2, .int .i64 e2, .string s2, .slice B n2 d, .slice B' n2' d']] w fun r w' => RefPost w r w' (zeroJ, 100) := by
  have HT := Keep.mk (OpS.new w k m e s A n c A' n' c' k2 m2 e2 s2 B n2 d B' n2' d' 27 27 27)
  clear _hJ _hJ2
  go_enter Tryz.func17, Tryz.ntmps17
  go_upto_region 1 with fail
  refine wp_world (fun W => OpS w W (cells6 k m e s A n c A' n' c') (cells6 k2 m2 e2 s2 B n2 d B' n2' d')) HT.out ?_
  clear HT
  rintro w1 HT
  replace HT := Keep.mk HT
  have HR2 : Box w1 (w.heap.size + 1 + 1) zero6 := HT.out.r
  have r0 := HR2.cell 0 _ rfl
  have f0 := HR2.froz 0
  have r1 := HR2.cell 1 _ rfl
  have f1 := HR2.froz 1
  have r2 := HR2.cell 2 _ rfl
  have f2 := HR2.froz 2
  have r3 := HR2.cell 3 _ rfl
  have f3 := HR2.froz 3
  have r4 := HR2.cell 4 _ rfl
  have f4 := HR2.froz 4
  have r5 := HR2.cell 5 _ rfl
  have f5 := HR2.froz 5
  have rl := HR2.lt
  go_wp2
  refine bodyPost_ret (v := .tuple #[.agg #[.int .i64 0, .int .i64 0, .int .i64 0, .string ⟨#[]⟩, .slice none 0 0, .slice none 0 0], .int .i64 100]) ?_ rfl ⟨_, rfl, zero_at12 _ _, HT.out.b.trans (six_below w1 (w.heap.size + 2) (.int .i64 0) (.int .i64 0) (.int .i64 0) (.string ⟨#[]⟩) (.slice none 0 0) (.slice none 0 0) (by omega))⟩
  simp [results, Tryz.results17, go_sem, r0, r1, r2, r3, r4, r5]
set_option maxRecDepth 100000 in
set_option maxHeartbeats 4000000 in
theorem rwith_bad_has (a b : JV) (w : World) (k m e : Int) (s : ByteArray) (A : Option Addr) (n c : Nat) (A' : Option Addr) (n' c' : Nat) (k2 m2 e2 : Int) (s2 : ByteArray) (B : Option Addr) (n2 d : Nat) (B' : Option Addr) (n2' d' : Nat) (hJ : JAt w w.heap.size a (cells6 k m e s A n c A' n' c')) (hJ2 : JAt w w.heap.size b (cells6 k2 m2 e2 s2 B n2 d B' n2' d')) (hza : countJ a ≤ 1000000) (hzb : countJ b ≤ 1000000) (er : Int) (hne : (er == 0) = false) (hbl : badL [a, b] = er) :
    Calls Tryz.prog 17 #[.string ⟨#[104, 97, 115]⟩, .agg #[.int .i64 k, .int .i64 m, .int .i64 e, .string s, .slice A n c, .slice A' n' c'], .agg #[.int .i64 k2, .int .i64 m2, .int .i64 e2, .string s2, .slice B n2 d, .slice B' n2' d']] w fun r w' => RefPost w r w' (zeroJ, er) := by
  have HJ := Keep.mk hJ
  have HJ2 := Keep.mk hJ2
  have HT := Keep.mk (OpS.new w k m e s A n c A' n' c' k2 m2 e2 s2 B n2 d B' n2' d' 27 27 27)
  clear hJ hJ2
  have HBL := Keep.mk hbl
  clear hbl
  go_enter Tryz.func17, Tryz.ntmps17
  go_upto_region 1 with fail
  refine wp_world (fun W => OpS w W (cells6 k m e s A n c A' n' c') (cells6 k2 m2 e2 s2 B n2 d B' n2' d')) HT.out ?_
  clear HT
  rintro w1 HT
  replace HT := Keep.mk HT
  have x0 := HT.out.x.cell 0 _ rfl
  have x1 := HT.out.x.cell 1 _ rfl
  have x2 := HT.out.x.cell 2 _ rfl
  have x3 := HT.out.x.cell 3 _ rfl
  have x4 := HT.out.x.cell 4 _ rfl
  have x5 := HT.out.x.cell 5 _ rfl
  have xl := HT.out.x.lt
  have y0 := HT.out.y.cell 0 _ rfl
  have y1 := HT.out.y.cell 1 _ rfl
  have y2 := HT.out.y.cell 2 _ rfl
  have y3 := HT.out.y.cell 3 _ rfl
  have y4 := HT.out.y.cell 4 _ rfl
  have y5 := HT.out.y.cell 5 _ rfl
  have yl := HT.out.y.lt
  have HRI := Keep.mk (ref12_right a b hza hzb w1 _ _ (HJ.out.up HT.out.b) (HJ2.out.up HT.out.b))
  clear hza hzb
  go_wp2_with fail
  refine HRI.out.mono ?_
  rw [HBL.out]
  rintro r w2 ⟨rfl, hb2⟩
  replace HT := Keep.mk (HT.out.below hb2)
  clear hb2 HBL HRI
  clear x0 x1 x2 x3 x4 x5 y0 y1 y2 y3 y4 y5 xl yl
  have r0 := HT.out.r.cell 0 _ rfl
  have f0 := HT.out.r.froz 0
  have r1 := HT.out.r.cell 1 _ rfl
  have f1 := HT.out.r.froz 1
  have r2 := HT.out.r.cell 2 _ rfl
  have f2 := HT.out.r.froz 2
  have r3 := HT.out.r.cell 3 _ rfl
  have f3 := HT.out.r.froz 3
  have r4 := HT.out.r.cell 4 _ rfl
  have f4 := HT.out.r.froz 4
  have r5 := HT.out.r.cell 5 _ rfl
  have f5 := HT.out.r.froz 5
  have rl := HT.out.r.lt
  go_wp2
  refine bodyPost_ret (v := .tuple #[.agg #[.int .i64 0, .int .i64 0, .int .i64 0, .string ⟨#[]⟩, .slice none 0 0, .slice none 0 0], .int .i64 er]) ?_ rfl ⟨_, rfl, zero_at12 _ _, HT.out.b.trans (six_below w2 (w.heap.size + 2) (.int .i64 0) (.int .i64 0) (.int .i64 0) (.string ⟨#[]⟩) (.slice none 0 0) (.slice none 0 0) (by omega))⟩
  simp [results, Tryz.results17, go_sem, r0, r1, r2, r3, r4, r5]
set_option maxRecDepth 100000 in
set_option maxHeartbeats 4000000 in
theorem rwith_bad_join (a b : JV) (w : World) (k m e : Int) (s : ByteArray) (A : Option Addr) (n c : Nat) (A' : Option Addr) (n' c' : Nat) (k2 m2 e2 : Int) (s2 : ByteArray) (B : Option Addr) (n2 d : Nat) (B' : Option Addr) (n2' d' : Nat) (hJ : JAt w w.heap.size a (cells6 k m e s A n c A' n' c')) (hJ2 : JAt w w.heap.size b (cells6 k2 m2 e2 s2 B n2 d B' n2' d')) (hza : countJ a ≤ 1000000) (hzb : countJ b ≤ 1000000) (er : Int) (hne : (er == 0) = false) (hbl : badL [a, b] = er) :
    Calls Tryz.prog 17 #[.string ⟨#[106, 111, 105, 110]⟩, .agg #[.int .i64 k, .int .i64 m, .int .i64 e, .string s, .slice A n c, .slice A' n' c'], .agg #[.int .i64 k2, .int .i64 m2, .int .i64 e2, .string s2, .slice B n2 d, .slice B' n2' d']] w fun r w' => RefPost w r w' (zeroJ, er) := by
  have HJ := Keep.mk hJ
  have HJ2 := Keep.mk hJ2
  have HT := Keep.mk (OpS.new w k m e s A n c A' n' c' k2 m2 e2 s2 B n2 d B' n2' d' 27 27 27)
  clear hJ hJ2
  have HBL := Keep.mk hbl
  clear hbl
  go_enter Tryz.func17, Tryz.ntmps17
  go_upto_region 1 with fail
  refine wp_world (fun W => OpS w W (cells6 k m e s A n c A' n' c') (cells6 k2 m2 e2 s2 B n2 d B' n2' d')) HT.out ?_
  clear HT
  rintro w1 HT
  replace HT := Keep.mk HT
  have x0 := HT.out.x.cell 0 _ rfl
  have x1 := HT.out.x.cell 1 _ rfl
  have x2 := HT.out.x.cell 2 _ rfl
  have x3 := HT.out.x.cell 3 _ rfl
  have x4 := HT.out.x.cell 4 _ rfl
  have x5 := HT.out.x.cell 5 _ rfl
  have xl := HT.out.x.lt
  have y0 := HT.out.y.cell 0 _ rfl
  have y1 := HT.out.y.cell 1 _ rfl
  have y2 := HT.out.y.cell 2 _ rfl
  have y3 := HT.out.y.cell 3 _ rfl
  have y4 := HT.out.y.cell 4 _ rfl
  have y5 := HT.out.y.cell 5 _ rfl
  have yl := HT.out.y.lt
  have HRI := Keep.mk (ref12_right a b hza hzb w1 _ _ (HJ.out.up HT.out.b) (HJ2.out.up HT.out.b))
  clear hza hzb
  go_wp2_with fail
  refine HRI.out.mono ?_
  rw [HBL.out]
  rintro r w2 ⟨rfl, hb2⟩
  replace HT := Keep.mk (HT.out.below hb2)
  clear hb2 HBL HRI
  clear x0 x1 x2 x3 x4 x5 y0 y1 y2 y3 y4 y5 xl yl
  have r0 := HT.out.r.cell 0 _ rfl
  have f0 := HT.out.r.froz 0
  have r1 := HT.out.r.cell 1 _ rfl
  have f1 := HT.out.r.froz 1
  have r2 := HT.out.r.cell 2 _ rfl
  have f2 := HT.out.r.froz 2
  have r3 := HT.out.r.cell 3 _ rfl
  have f3 := HT.out.r.froz 3
  have r4 := HT.out.r.cell 4 _ rfl
  have f4 := HT.out.r.froz 4
  have r5 := HT.out.r.cell 5 _ rfl
  have f5 := HT.out.r.froz 5
  have rl := HT.out.r.lt
  go_wp2
  refine bodyPost_ret (v := .tuple #[.agg #[.int .i64 0, .int .i64 0, .int .i64 0, .string ⟨#[]⟩, .slice none 0 0, .slice none 0 0], .int .i64 er]) ?_ rfl ⟨_, rfl, zero_at12 _ _, HT.out.b.trans (six_below w2 (w.heap.size + 2) (.int .i64 0) (.int .i64 0) (.int .i64 0) (.string ⟨#[]⟩) (.slice none 0 0) (.slice none 0 0) (by omega))⟩
  simp [results, Tryz.results17, go_sem, r0, r1, r2, r3, r4, r5]
theorem hasK_step (ks : List ByteArray) (x : ByteArray) (j : Nat) (h : j < ks.length) : hasK (ks.take (j + 1)) x = (hasK (ks.take j) x || decide (ks[j] = x)) := by
  unfold hasK
  rw [List.take_succ_eq_append_getElem h, List.any_append]
  simp
theorem hasN_step (m e : Int) (j : Nat) : hasN (j + 1) m e = (hasN j m e || decide (wholeN j = (m, e))) := by
  unfold hasN
  rw [List.range_succ, List.any_append]
  simp
set_option maxRecDepth 100000 in
set_option maxHeartbeats 4000000 in
theorem rwith_has_map (a b : JV) (w : World) (k m e : Int) (s : ByteArray) (A : Option Addr) (n c : Nat) (A' : Option Addr) (n' c' : Nat) (k2 m2 e2 : Int) (s2 : ByteArray) (B : Option Addr) (n2 d : Nat) (B' : Option Addr) (n2' d' : Nat) (hJ : JAt w w.heap.size a (cells6 k m e s A n c A' n' c')) (hJ2 : JAt w w.heap.size b (cells6 k2 m2 e2 s2 B n2 d B' n2' d')) (hza : countJ a ≤ 1000000) (hzb : countJ b ≤ 1000000) (ha : rightJ a = 0) (hb : rightJ b = 0) (hk : k = 6) (hk2 : k2 = 4) :
    Calls Tryz.prog 17 #[.string ⟨#[104, 97, 115]⟩, .agg #[.int .i64 k, .int .i64 m, .int .i64 e, .string s, .slice A n c, .slice A' n' c'], .agg #[.int .i64 k2, .int .i64 m2, .int .i64 e2, .string s2, .slice B n2 d, .slice B' n2' d']] w fun r w' => RefPost w r w' (truthV (hasK a.ks s2), 0) := by
  have HJ := Keep.mk hJ
  have HJ2 := Keep.mk hJ2
  have HT := Keep.mk (OpS.new w k m e s A n c A' n' c' k2 m2 e2 s2 B n2 d B' n2' d' 27 27 27)
  clear hJ hJ2
  have HBL := Keep.mk (show badL [a, b] = 0 by show (if rightJ a ≠ 0 then rightJ a else if rightJ b ≠ 0 then rightJ b else 0) = 0; rw [ha, hb]; rfl)
  obtain ⟨hn', HK⟩ : n' = a.ks.length ∧ ∀ W, Below w.heap.size w W → StrsAt W W.heap.size A' c' a.ks := by
    obtain ⟨k9, m9, e9, s9, l9, ks9⟩ := a
    obtain ⟨A9, c9, B9, d9, hcs, _, _, _, _, hS, _⟩ := JAt.open HJ.out
    simp only [cells6, List.cons.injEq, Value.slice.injEq, and_true] at hcs
    obtain ⟨_, _, _, _, _, rfl, rfl, rfl⟩ := hcs
    exact ⟨rfl, fun W hb => (hS.below hb (Nat.le_refl _)).more hb.size⟩
  replace HK := Keep.mk HK
  obtain ⟨ks, hks⟩ : ∃ ks, a.ks = ks := ⟨_, rfl⟩
  rw [hks] at HK hn' ⊢
  subst hn' hk hk2
  clear ha hb hks
  go_enter Tryz.func17, Tryz.ntmps17
  go_upto_region 1 with fail
  refine wp_world (fun W => OpS w W (cells6 6 m e s A n c A' ks.length c') (cells6 4 m2 e2 s2 B n2 d B' n2' d')) HT.out ?_
  clear HT
  rintro w1 HT
  replace HT := Keep.mk HT
  have x0 := HT.out.x.cell 0 _ rfl
  have x1 := HT.out.x.cell 1 _ rfl
  have x2 := HT.out.x.cell 2 _ rfl
  have x3 := HT.out.x.cell 3 _ rfl
  have x4 := HT.out.x.cell 4 _ rfl
  have x5 := HT.out.x.cell 5 _ rfl
  have xl := HT.out.x.lt
  have y0 := HT.out.y.cell 0 _ rfl
  have y1 := HT.out.y.cell 1 _ rfl
  have y2 := HT.out.y.cell 2 _ rfl
  have y3 := HT.out.y.cell 3 _ rfl
  have y4 := HT.out.y.cell 4 _ rfl
  have y5 := HT.out.y.cell 5 _ rfl
  have yl := HT.out.y.lt
  have HRI := Keep.mk (ref12_right a b hza hzb w1 _ _ (HJ.out.up HT.out.b) (HJ2.out.up HT.out.b))
  clear hza hzb
  go_wp2_with fail
  refine HRI.out.mono ?_
  rw [HBL.out]
  rintro r w2 ⟨rfl, hb2⟩
  replace HT := Keep.mk (HT.out.below hb2)
  clear hb2 HBL HRI
  clear x0 x1 x2 x3 x4 x5 y0 y1 y2 y3 y4 y5 xl yl
  clear HJ HJ2
  have x0 := HT.out.x.cell 0 _ rfl
  have x1 := HT.out.x.cell 1 _ rfl
  have x2 := HT.out.x.cell 2 _ rfl
  have x3 := HT.out.x.cell 3 _ rfl
  have x4 := HT.out.x.cell 4 _ rfl
  have x5 := HT.out.x.cell 5 _ rfl
  have xl := HT.out.x.lt
  have y0 := HT.out.y.cell 0 _ rfl
  have y1 := HT.out.y.cell 1 _ rfl
  have y2 := HT.out.y.cell 2 _ rfl
  have y3 := HT.out.y.cell 3 _ rfl
  have y4 := HT.out.y.cell 4 _ rfl
  have y5 := HT.out.y.cell 5 _ rfl
  have yl := HT.out.y.lt
  go_wp2_with fail
  go_loopg [9, 10] ks.length (fun gk v9 i wr => ∃ j : Nat, j + gk = ks.length ∧ i = .int .i64 j ∧ ∃ b : Bool, v9 = .bool b ∧ Keep (b = hasK (ks.take j) s2) ∧ Keep (OpS w wr (cells6 6 m e s A n c A' ks.length c') (cells6 4 m2 e2 s2 B n2 d B' n2' d')))
  case atStart => exact ⟨0, by omega, rfl, false, rfl, ⟨by rw [List.take_zero]; rfl⟩, HT⟩
  case round =>
    clear HT x0 x1 x2 x3 x4 x5 y0 y1 y2 y3 y4 y5 xl yl
    obtain ⟨j, hj, rfl, b, rfl, HE, HT⟩ := hrel
    have x0 := HT.out.x.cell 0 _ rfl
    have x1 := HT.out.x.cell 1 _ rfl
    have x2 := HT.out.x.cell 2 _ rfl
    have x3 := HT.out.x.cell 3 _ rfl
    have x4 := HT.out.x.cell 4 _ rfl
    have x5 := HT.out.x.cell 5 _ rfl
    have xl := HT.out.x.lt
    have y0 := HT.out.y.cell 0 _ rfl
    have y1 := HT.out.y.cell 1 _ rfl
    have y2 := HT.out.y.cell 2 _ rfl
    have y3 := HT.out.y.cell 3 _ rfl
    have y4 := HT.out.y.cell 4 _ rfl
    have y5 := HT.out.y.cell 5 _ rfl
    have yl := HT.out.y.lt
    by_cases hlt : j < ks.length
    · have hgk : gk ≠ 0 := by omega
      obtain ⟨g, o, rfl, hg, hc⟩ := (HK.out wr HT.out.b).at_ (by omega)
      have cj := hc j hlt
      have hcap := (HK.out wr HT.out.b).cap
      have HS := Keep.mk (hasK_step ks s2 j hlt)
      obtain ⟨kj, hkj⟩ : ∃ kj, ks[j] = kj := ⟨_, rfl⟩
      rw [hkj] at cj HS
      clear hkj hc
      cases b
      case true =>
        go_wp2_with fail
        refine wp_region_above (by kernel_rfl) (by kernel_rfl) ?_
        repeat (go_big_quiet_step (fail))
        refine wpQuiet_nil ?_
        rintro _ ⟨x, rfl⟩
        go_wp2
        go_roundg (gk - 1)
        case rel => exact ⟨j + 1, by omega, by go_num, true, rfl, ⟨by rw [HS.out, ← HE.out]; rfl⟩, ⟨HT.out.below (x.property)⟩⟩
        case measure => omega
      case false =>
        go_wp2_with fail
        refine wp_region_above (by kernel_rfl) (by kernel_rfl) ?_
        repeat (go_big_quiet_step (fail))
        refine wpQuiet_nil ?_
        rintro _ ⟨x, rfl⟩
        go_wp2
        go_roundg (gk - 1)
        case rel => exact ⟨j + 1, by omega, by go_num, (kj.toList == s2.toList), rfl, ⟨by rw [HS.out, ← HE.out, ← ba_eq]; rfl⟩, ⟨HT.out.below (x.property)⟩⟩
        case measure => omega
    · obtain rfl : j = ks.length := by omega
      have HB := Keep.mk (show hasK ks s2 = b by rw [HE.out, List.take_length])
      clear HE HK
      go_wp2_with fail
      refine (ref12_truth2 b _).mono ?_
      rintro r w4 ⟨q, rfl, hq, hb9⟩
      replace HT := Keep.mk (HT.out.below hb9)
      clear hb9
      have r0 := HT.out.r.cell 0 _ rfl
      have f0 := HT.out.r.froz 0
      have r1 := HT.out.r.cell 1 _ rfl
      have f1 := HT.out.r.froz 1
      have r2 := HT.out.r.cell 2 _ rfl
      have f2 := HT.out.r.froz 2
      have r3 := HT.out.r.cell 3 _ rfl
      have f3 := HT.out.r.froz 3
      have r4 := HT.out.r.cell 4 _ rfl
      have f4 := HT.out.r.froz 4
      have r5 := HT.out.r.cell 5 _ rfl
      have f5 := HT.out.r.froz 5
      have rl := HT.out.r.lt
      go_wp2
      refine bodyPost_ret (v := .tuple #[.agg #[.int .i64 q, .int .i64 0, .int .i64 0, .string ⟨#[]⟩, .slice none 0 0, .slice none 0 0], .int .i64 0]) ?_ rfl ⟨_, rfl, by rw [HB.out]; exact (hq.out _ (fun _ => False)).at (fun _g hg => hg.elim), HT.out.b.trans (six_below w4 (w.heap.size + 2) (.int .i64 q) (.int .i64 0) (.int .i64 0) (.string ⟨#[]⟩) (.slice none 0 0) (.slice none 0 0) (by omega))⟩
      simp [results, Tryz.results17, go_sem, r0, r1, r2, r3, r4, r5]
set_option maxRecDepth 100000 in
set_option maxHeartbeats 4000000 in
theorem rwith_has_list (a b : JV) (w : World) (k m e : Int) (s : ByteArray) (A : Option Addr) (n c : Nat) (A' : Option Addr) (n' c' : Nat) (k2 m2 e2 : Int) (s2 : ByteArray) (B : Option Addr) (n2 d : Nat) (B' : Option Addr) (n2' d' : Nat) (hJ : JAt w w.heap.size a (cells6 k m e s A n c A' n' c')) (hJ2 : JAt w w.heap.size b (cells6 k2 m2 e2 s2 B n2 d B' n2' d')) (hza : countJ a ≤ 1000000) (hzb : countJ b ≤ 1000000) (ha : rightJ a = 0) (hb : rightJ b = 0) (hk : k = 5) (hk2 : k2 = 3) (hn : n < 1000000000000000000) :
    Calls Tryz.prog 17 #[.string ⟨#[104, 97, 115]⟩, .agg #[.int .i64 k, .int .i64 m, .int .i64 e, .string s, .slice A n c, .slice A' n' c'], .agg #[.int .i64 k2, .int .i64 m2, .int .i64 e2, .string s2, .slice B n2 d, .slice B' n2' d']] w fun r w' => RefPost w r w' (truthV (hasN n m2 e2), 0) := by
  have HJ := Keep.mk hJ
  have HJ2 := Keep.mk hJ2
  have HT := Keep.mk (OpS.new w k m e s A n c A' n' c' k2 m2 e2 s2 B n2 d B' n2' d' 27 27 27)
  clear hJ hJ2
  have HBL := Keep.mk (show badL [a, b] = 0 by show (if rightJ a ≠ 0 then rightJ a else if rightJ b ≠ 0 then rightJ b else 0) = 0; rw [ha, hb]; rfl)
  have HN := Keep.mk hn
  subst hk hk2
  clear ha hb
  go_enter Tryz.func17, Tryz.ntmps17
  go_upto_region 1 with fail
  refine wp_world (fun W => OpS w W (cells6 5 m e s A n c A' n' c') (cells6 3 m2 e2 s2 B n2 d B' n2' d')) HT.out ?_
  clear HT
  rintro w1 HT
  replace HT := Keep.mk HT
  have x0 := HT.out.x.cell 0 _ rfl
  have x1 := HT.out.x.cell 1 _ rfl
  have x2 := HT.out.x.cell 2 _ rfl
  have x3 := HT.out.x.cell 3 _ rfl
  have x4 := HT.out.x.cell 4 _ rfl
  have x5 := HT.out.x.cell 5 _ rfl
  have xl := HT.out.x.lt
  have y0 := HT.out.y.cell 0 _ rfl
  have y1 := HT.out.y.cell 1 _ rfl
  have y2 := HT.out.y.cell 2 _ rfl
  have y3 := HT.out.y.cell 3 _ rfl
  have y4 := HT.out.y.cell 4 _ rfl
  have y5 := HT.out.y.cell 5 _ rfl
  have yl := HT.out.y.lt
  have HRI := Keep.mk (ref12_right a b hza hzb w1 _ _ (HJ.out.up HT.out.b) (HJ2.out.up HT.out.b))
  clear hza hzb
  go_wp2_with fail
  refine HRI.out.mono ?_
  rw [HBL.out]
  rintro r w2 ⟨rfl, hb2⟩
  replace HT := Keep.mk (HT.out.below hb2)
  clear hb2 HBL HRI
  clear x0 x1 x2 x3 x4 x5 y0 y1 y2 y3 y4 y5 xl yl
  clear HJ HJ2
  have x0 := HT.out.x.cell 0 _ rfl
  have x1 := HT.out.x.cell 1 _ rfl
  have x2 := HT.out.x.cell 2 _ rfl
  have x3 := HT.out.x.cell 3 _ rfl
  have x4 := HT.out.x.cell 4 _ rfl
  have x5 := HT.out.x.cell 5 _ rfl
  have xl := HT.out.x.lt
  have y0 := HT.out.y.cell 0 _ rfl
  have y1 := HT.out.y.cell 1 _ rfl
  have y2 := HT.out.y.cell 2 _ rfl
  have y3 := HT.out.y.cell 3 _ rfl
  have y4 := HT.out.y.cell 4 _ rfl
  have y5 := HT.out.y.cell 5 _ rfl
  have yl := HT.out.y.lt
  go_wp2_with fail
  go_loopg [11, 12] n (fun gk v9 i wr => ∃ j : Nat, j + gk = n ∧ i = .int .i64 j ∧ ∃ b : Bool, v9 = .bool b ∧ Keep (b = hasN j m2 e2) ∧ Keep (OpS w wr (cells6 5 m e s A n c A' n' c') (cells6 3 m2 e2 s2 B n2 d B' n2' d')))
  case atStart => exact ⟨0, by omega, rfl, false, rfl, ⟨rfl⟩, HT⟩
  case round =>
    clear HT x0 x1 x2 x3 x4 x5 y0 y1 y2 y3 y4 y5 xl yl
    obtain ⟨j, hj, rfl, b, rfl, HE, HT⟩ := hrel
    have x0 := HT.out.x.cell 0 _ rfl
    have x1 := HT.out.x.cell 1 _ rfl
    have x2 := HT.out.x.cell 2 _ rfl
    have x3 := HT.out.x.cell 3 _ rfl
    have x4 := HT.out.x.cell 4 _ rfl
    have x5 := HT.out.x.cell 5 _ rfl
    have xl := HT.out.x.lt
    have y0 := HT.out.y.cell 0 _ rfl
    have y1 := HT.out.y.cell 1 _ rfl
    have y2 := HT.out.y.cell 2 _ rfl
    have y3 := HT.out.y.cell 3 _ rfl
    have y4 := HT.out.y.cell 4 _ rfl
    have y5 := HT.out.y.cell 5 _ rfl
    have yl := HT.out.y.lt
    by_cases hlt : j < n
    · have hgk : gk ≠ 0 := by omega
      have HS := Keep.mk (hasN_step m2 e2 j)
      cases b
      case true =>
        go_wp2_with fail
        refine wp_region_above (by kernel_rfl) (by kernel_rfl) ?_
        repeat (go_big_quiet_step (fail))
        refine wpQuiet_nil ?_
        rintro _ ⟨x, rfl⟩
        go_wp2
        go_roundg (gk - 1)
        case rel => exact ⟨j + 1, by omega, by go_num, true, rfl, ⟨by rw [HS.out, ← HE.out]; rfl⟩, ⟨HT.out.below (x.property)⟩⟩
        case measure => omega
      case false =>
        have HW := Keep.mk (fun (z : Above wr) => ref12_whole j (by omega) z.val)
        obtain ⟨⟨wm, we⟩, hwn⟩ : ∃ p, wholeN j = p := ⟨_, rfl⟩
        rw [hwn] at HW HS
        clear hwn
        go_wp2_with fail
        refine wp_region_above (by kernel_rfl) (by kernel_rfl) ?_
        repeat (go_big_quiet_step ((go_at_call 53; exact calls_above (HW.out _))))
        refine wpQuiet_nil ?_
        rintro _ ⟨x, rfl⟩
        replace HT := Keep.mk (HT.out.below x.property)
        clear HW
        go_wp2
        go_roundg (gk - 1)
        case rel => exact ⟨j + 1, by omega, by go_num, (wm == m2 && we == e2), by go_num, ⟨by rw [HS.out, ← HE.out, Bool.false_or, Bool.eq_iff_iff]; simp [Prod.ext_iff]⟩, ⟨HT.out⟩⟩
        case measure => omega
    · obtain rfl : j = n := by omega
      have HB := Keep.mk HE.out.symm
      clear HE
      go_wp2_with fail
      refine (ref12_truth2 b _).mono ?_
      rintro r w4 ⟨q, rfl, hq, hb9⟩
      replace HT := Keep.mk (HT.out.below hb9)
      clear hb9
      have r0 := HT.out.r.cell 0 _ rfl
      have f0 := HT.out.r.froz 0
      have r1 := HT.out.r.cell 1 _ rfl
      have f1 := HT.out.r.froz 1
      have r2 := HT.out.r.cell 2 _ rfl
      have f2 := HT.out.r.froz 2
      have r3 := HT.out.r.cell 3 _ rfl
      have f3 := HT.out.r.froz 3
      have r4 := HT.out.r.cell 4 _ rfl
      have f4 := HT.out.r.froz 4
      have r5 := HT.out.r.cell 5 _ rfl
      have f5 := HT.out.r.froz 5
      have rl := HT.out.r.lt
      go_wp2
      refine bodyPost_ret (v := .tuple #[.agg #[.int .i64 q, .int .i64 0, .int .i64 0, .string ⟨#[]⟩, .slice none 0 0, .slice none 0 0], .int .i64 0]) ?_ rfl ⟨_, rfl, by rw [HB.out]; exact (hq.out _ (fun _ => False)).at (fun _g hg => hg.elim), HT.out.b.trans (six_below w4 (w.heap.size + 2) (.int .i64 q) (.int .i64 0) (.int .i64 0) (.string ⟨#[]⟩) (.slice none 0 0) (.slice none 0 0) (by omega))⟩
      simp [results, Tryz.results17, go_sem, r0, r1, r2, r3, r4, r5]
set_option maxRecDepth 100000 in
set_option maxHeartbeats 4000000 in
theorem rwith_kind_join (a b : JV) (w : World) (k m e : Int) (s : ByteArray) (A : Option Addr) (n c : Nat) (A' : Option Addr) (n' c' : Nat) (k2 m2 e2 : Int) (s2 : ByteArray) (B : Option Addr) (n2 d : Nat) (B' : Option Addr) (n2' d' : Nat) (hJ : JAt w w.heap.size a (cells6 k m e s A n c A' n' c')) (hJ2 : JAt w w.heap.size b (cells6 k2 m2 e2 s2 B n2 d B' n2' d')) (hza : countJ a ≤ 1000000) (hzb : countJ b ≤ 1000000) (ha : rightJ a = 0) (hb : rightJ b = 0) (hk : ((k == 5) && (k2 == 4)) = false) :
    Calls Tryz.prog 17 #[.string ⟨#[106, 111, 105, 110]⟩, .agg #[.int .i64 k, .int .i64 m, .int .i64 e, .string s, .slice A n c, .slice A' n' c'], .agg #[.int .i64 k2, .int .i64 m2, .int .i64 e2, .string s2, .slice B n2 d, .slice B' n2' d']] w fun r w' => RefPost w r w' (zeroJ, 80) := by
  have HJ := Keep.mk hJ
  have HJ2 := Keep.mk hJ2
  have HT := Keep.mk (OpS.new w k m e s A n c A' n' c' k2 m2 e2 s2 B n2 d B' n2' d' 27 27 27)
  clear hJ hJ2
  have HBL := Keep.mk (show badL [a, b] = 0 by show (if rightJ a ≠ 0 then rightJ a else if rightJ b ≠ 0 then rightJ b else 0) = 0; rw [ha, hb]; rfl)
  clear ha hb
  go_enter Tryz.func17, Tryz.ntmps17
  go_upto_region 1 with fail
  refine wp_world (fun W => OpS w W (cells6 k m e s A n c A' n' c') (cells6 k2 m2 e2 s2 B n2 d B' n2' d')) HT.out ?_
  clear HT
  rintro w1 HT
  replace HT := Keep.mk HT
  have x0 := HT.out.x.cell 0 _ rfl
  have x1 := HT.out.x.cell 1 _ rfl
  have x2 := HT.out.x.cell 2 _ rfl
  have x3 := HT.out.x.cell 3 _ rfl
  have x4 := HT.out.x.cell 4 _ rfl
  have x5 := HT.out.x.cell 5 _ rfl
  have xl := HT.out.x.lt
  have y0 := HT.out.y.cell 0 _ rfl
  have y1 := HT.out.y.cell 1 _ rfl
  have y2 := HT.out.y.cell 2 _ rfl
  have y3 := HT.out.y.cell 3 _ rfl
  have y4 := HT.out.y.cell 4 _ rfl
  have y5 := HT.out.y.cell 5 _ rfl
  have yl := HT.out.y.lt
  have HRI := Keep.mk (ref12_right a b hza hzb w1 _ _ (HJ.out.up HT.out.b) (HJ2.out.up HT.out.b))
  clear hza hzb
  go_wp2_with fail
  refine HRI.out.mono ?_
  rw [HBL.out]
  rintro r w2 ⟨rfl, hb2⟩
  replace HT := Keep.mk (HT.out.below hb2)
  clear hb2 HBL HRI
  clear x0 x1 x2 x3 x4 x5 y0 y1 y2 y3 y4 y5 xl yl
  clear HJ HJ2
  have x0 := HT.out.x.cell 0 _ rfl
  have x1 := HT.out.x.cell 1 _ rfl
  have x2 := HT.out.x.cell 2 _ rfl
  have x3 := HT.out.x.cell 3 _ rfl
  have x4 := HT.out.x.cell 4 _ rfl
  have x5 := HT.out.x.cell 5 _ rfl
  have xl := HT.out.x.lt
  have y0 := HT.out.y.cell 0 _ rfl
  have y1 := HT.out.y.cell 1 _ rfl
  have y2 := HT.out.y.cell 2 _ rfl
  have y3 := HT.out.y.cell 3 _ rfl
  have y4 := HT.out.y.cell 4 _ rfl
  have y5 := HT.out.y.cell 5 _ rfl
  have yl := HT.out.y.lt
  by_cases h5 : k = 5
  · subst h5
    have b4 : (k2 == 4) = false := by simpa using hk
    clear hk
    have r0 := HT.out.r.cell 0 _ rfl
    have f0 := HT.out.r.froz 0
    have r1 := HT.out.r.cell 1 _ rfl
    have f1 := HT.out.r.froz 1
    have r2 := HT.out.r.cell 2 _ rfl
    have f2 := HT.out.r.froz 2
    have r3 := HT.out.r.cell 3 _ rfl
    have f3 := HT.out.r.froz 3
    have r4 := HT.out.r.cell 4 _ rfl
    have f4 := HT.out.r.froz 4
    have r5 := HT.out.r.cell 5 _ rfl
    have f5 := HT.out.r.froz 5
    have rl := HT.out.r.lt
    go_wp2
    refine bodyPost_ret (v := .tuple #[.agg #[.int .i64 0, .int .i64 0, .int .i64 0, .string ⟨#[]⟩, .slice none 0 0, .slice none 0 0], .int .i64 80]) ?_ rfl ⟨_, rfl, zero_at12 _ _, HT.out.b.trans (six_below w2 (w.heap.size + 2) (.int .i64 0) (.int .i64 0) (.int .i64 0) (.string ⟨#[]⟩) (.slice none 0 0) (.slice none 0 0) (by omega))⟩
    simp [results, Tryz.results17, go_sem, r0, r1, r2, r3, r4, r5]
  · have b5 : (k == 5) = false := by simpa using h5
    clear hk h5
    have r0 := HT.out.r.cell 0 _ rfl
    have f0 := HT.out.r.froz 0
    have r1 := HT.out.r.cell 1 _ rfl
    have f1 := HT.out.r.froz 1
    have r2 := HT.out.r.cell 2 _ rfl
    have f2 := HT.out.r.froz 2
    have r3 := HT.out.r.cell 3 _ rfl
    have f3 := HT.out.r.froz 3
    have r4 := HT.out.r.cell 4 _ rfl
    have f4 := HT.out.r.froz 4
    have r5 := HT.out.r.cell 5 _ rfl
    have f5 := HT.out.r.froz 5
    have rl := HT.out.r.lt
    go_wp2
    refine bodyPost_ret (v := .tuple #[.agg #[.int .i64 0, .int .i64 0, .int .i64 0, .string ⟨#[]⟩, .slice none 0 0, .slice none 0 0], .int .i64 80]) ?_ rfl ⟨_, rfl, zero_at12 _ _, HT.out.b.trans (six_below w2 (w.heap.size + 2) (.int .i64 0) (.int .i64 0) (.int .i64 0) (.string ⟨#[]⟩) (.slice none 0 0) (.slice none 0 0) (by omega))⟩
    simp [results, Tryz.results17, go_sem, r0, r1, r2, r3, r4, r5]
set_option maxRecDepth 100000 in
set_option maxHeartbeats 4000000 in
theorem rwith_kind_has (a b : JV) (w : World) (k m e : Int) (s : ByteArray) (A : Option Addr) (n c : Nat) (A' : Option Addr) (n' c' : Nat) (k2 m2 e2 : Int) (s2 : ByteArray) (B : Option Addr) (n2 d : Nat) (B' : Option Addr) (n2' d' : Nat) (hJ : JAt w w.heap.size a (cells6 k m e s A n c A' n' c')) (hJ2 : JAt w w.heap.size b (cells6 k2 m2 e2 s2 B n2 d B' n2' d')) (hza : countJ a ≤ 1000000) (hzb : countJ b ≤ 1000000) (ha : rightJ a = 0) (hb : rightJ b = 0) (hk : ((k == 6) && (k2 == 4)) = false) (hkk : ((k == 5) && (k2 == 3)) = false) :
    Calls Tryz.prog 17 #[.string ⟨#[104, 97, 115]⟩, .agg #[.int .i64 k, .int .i64 m, .int .i64 e, .string s, .slice A n c, .slice A' n' c'], .agg #[.int .i64 k2, .int .i64 m2, .int .i64 e2, .string s2, .slice B n2 d, .slice B' n2' d']] w fun r w' => RefPost w r w' (zeroJ, 80) := by
  have HJ := Keep.mk hJ
  have HJ2 := Keep.mk hJ2
  have HT := Keep.mk (OpS.new w k m e s A n c A' n' c' k2 m2 e2 s2 B n2 d B' n2' d' 27 27 27)
  clear hJ hJ2
  have HBL := Keep.mk (show badL [a, b] = 0 by show (if rightJ a ≠ 0 then rightJ a else if rightJ b ≠ 0 then rightJ b else 0) = 0; rw [ha, hb]; rfl)
  clear ha hb
  go_enter Tryz.func17, Tryz.ntmps17
  go_upto_region 1 with fail
  refine wp_world (fun W => OpS w W (cells6 k m e s A n c A' n' c') (cells6 k2 m2 e2 s2 B n2 d B' n2' d')) HT.out ?_
  clear HT
  rintro w1 HT
  replace HT := Keep.mk HT
  have x0 := HT.out.x.cell 0 _ rfl
  have x1 := HT.out.x.cell 1 _ rfl
  have x2 := HT.out.x.cell 2 _ rfl
  have x3 := HT.out.x.cell 3 _ rfl
  have x4 := HT.out.x.cell 4 _ rfl
  have x5 := HT.out.x.cell 5 _ rfl
  have xl := HT.out.x.lt
  have y0 := HT.out.y.cell 0 _ rfl
  have y1 := HT.out.y.cell 1 _ rfl
  have y2 := HT.out.y.cell 2 _ rfl
  have y3 := HT.out.y.cell 3 _ rfl
  have y4 := HT.out.y.cell 4 _ rfl
  have y5 := HT.out.y.cell 5 _ rfl
  have yl := HT.out.y.lt
  have HRI := Keep.mk (ref12_right a b hza hzb w1 _ _ (HJ.out.up HT.out.b) (HJ2.out.up HT.out.b))
  clear hza hzb
  go_wp2_with fail
  refine HRI.out.mono ?_
  rw [HBL.out]
  rintro r w2 ⟨rfl, hb2⟩
  replace HT := Keep.mk (HT.out.below hb2)
  clear hb2 HBL HRI
  clear x0 x1 x2 x3 x4 x5 y0 y1 y2 y3 y4 y5 xl yl
  clear HJ HJ2
  have x0 := HT.out.x.cell 0 _ rfl
  have x1 := HT.out.x.cell 1 _ rfl
  have x2 := HT.out.x.cell 2 _ rfl
  have x3 := HT.out.x.cell 3 _ rfl
  have x4 := HT.out.x.cell 4 _ rfl
  have x5 := HT.out.x.cell 5 _ rfl
  have xl := HT.out.x.lt
  have y0 := HT.out.y.cell 0 _ rfl
  have y1 := HT.out.y.cell 1 _ rfl
  have y2 := HT.out.y.cell 2 _ rfl
  have y3 := HT.out.y.cell 3 _ rfl
  have y4 := HT.out.y.cell 4 _ rfl
  have y5 := HT.out.y.cell 5 _ rfl
  have yl := HT.out.y.lt
  by_cases h6 : k = 6
  · subst h6
    have b4 : (k2 == 4) = false := by simpa using hk
    clear hk hkk
    have r0 := HT.out.r.cell 0 _ rfl
    have f0 := HT.out.r.froz 0
    have r1 := HT.out.r.cell 1 _ rfl
    have f1 := HT.out.r.froz 1
    have r2 := HT.out.r.cell 2 _ rfl
    have f2 := HT.out.r.froz 2
    have r3 := HT.out.r.cell 3 _ rfl
    have f3 := HT.out.r.froz 3
    have r4 := HT.out.r.cell 4 _ rfl
    have f4 := HT.out.r.froz 4
    have r5 := HT.out.r.cell 5 _ rfl
    have f5 := HT.out.r.froz 5
    have rl := HT.out.r.lt
    go_wp2
    refine bodyPost_ret (v := .tuple #[.agg #[.int .i64 0, .int .i64 0, .int .i64 0, .string ⟨#[]⟩, .slice none 0 0, .slice none 0 0], .int .i64 80]) ?_ rfl ⟨_, rfl, zero_at12 _ _, HT.out.b.trans (six_below w2 (w.heap.size + 2) (.int .i64 0) (.int .i64 0) (.int .i64 0) (.string ⟨#[]⟩) (.slice none 0 0) (.slice none 0 0) (by omega))⟩
    simp [results, Tryz.results17, go_sem, r0, r1, r2, r3, r4, r5]
  · have b6 : (k == 6) = false := by simpa using h6
    by_cases h5 : k = 5
    · subst h5
      have b3 : (k2 == 3) = false := by simpa using hkk
      clear hk hkk
      have r0 := HT.out.r.cell 0 _ rfl
      have f0 := HT.out.r.froz 0
      have r1 := HT.out.r.cell 1 _ rfl
      have f1 := HT.out.r.froz 1
      have r2 := HT.out.r.cell 2 _ rfl
      have f2 := HT.out.r.froz 2
      have r3 := HT.out.r.cell 3 _ rfl
      have f3 := HT.out.r.froz 3
      have r4 := HT.out.r.cell 4 _ rfl
      have f4 := HT.out.r.froz 4
      have r5 := HT.out.r.cell 5 _ rfl
      have f5 := HT.out.r.froz 5
      have rl := HT.out.r.lt
      go_wp2
      refine bodyPost_ret (v := .tuple #[.agg #[.int .i64 0, .int .i64 0, .int .i64 0, .string ⟨#[]⟩, .slice none 0 0, .slice none 0 0], .int .i64 80]) ?_ rfl ⟨_, rfl, zero_at12 _ _, HT.out.b.trans (six_below w2 (w.heap.size + 2) (.int .i64 0) (.int .i64 0) (.int .i64 0) (.string ⟨#[]⟩) (.slice none 0 0) (.slice none 0 0) (by omega))⟩
      simp [results, Tryz.results17, go_sem, r0, r1, r2, r3, r4, r5]
    · have b5 : (k == 5) = false := by simpa using h5
      clear hk hkk h5 h6
      have r0 := HT.out.r.cell 0 _ rfl
      have f0 := HT.out.r.froz 0
      have r1 := HT.out.r.cell 1 _ rfl
      have f1 := HT.out.r.froz 1
      have r2 := HT.out.r.cell 2 _ rfl
      have f2 := HT.out.r.froz 2
      have r3 := HT.out.r.cell 3 _ rfl
      have f3 := HT.out.r.froz 3
      have r4 := HT.out.r.cell 4 _ rfl
      have f4 := HT.out.r.froz 4
      have r5 := HT.out.r.cell 5 _ rfl
      have f5 := HT.out.r.froz 5
      have rl := HT.out.r.lt
      go_wp2
      refine bodyPost_ret (v := .tuple #[.agg #[.int .i64 0, .int .i64 0, .int .i64 0, .string ⟨#[]⟩, .slice none 0 0, .slice none 0 0], .int .i64 80]) ?_ rfl ⟨_, rfl, zero_at12 _ _, HT.out.b.trans (six_below w2 (w.heap.size + 2) (.int .i64 0) (.int .i64 0) (.int .i64 0) (.string ⟨#[]⟩) (.slice none 0 0) (.slice none 0 0) (by omega))⟩
      simp [results, Tryz.results17, go_sem, r0, r1, r2, r3, r4, r5]
theorem right_elem {v : JV} (h : rightJ v = 0) (j : Nat) (hj : j < v.l.length) : rightJ v.l[j] = 0 := by
  obtain ⟨ha, hd⟩ := right_ok h
  obtain ⟨k, m, e, s, l, ks⟩ := v
  rw [show allJ (.mk k m e s l ks) = (okOne (.mk k m e s l ks) && allL l) from rfl, Bool.and_eq_true] at ha
  have h1 := allL_mem l l[j] ha.2 (List.getElem_mem hj)
  have h2 : depthJ l[j] ≤ depthL l := (depthL_mem l (depthL l)).1 (Nat.le_refl _) _ (List.getElem_mem hj)
  have h3 : 1 + depthL l ≤ 48 := hd
  show rightJ l[j] = 0
  unfold rightJ
  rw [if_neg (by omega), h1]; rfl
theorem join_none (gap : ByteArray) (l : List JV) : joinB ((l.take 0).map jpart) gap = ⟨#[]⟩ := by rw [List.take_zero]; rfl
theorem join_le (gap : ByteArray) (l : List JV) (j : Nat) : (joinB ((l.take j).map jpart) gap).size ≤ jsize gap l := by
  by_cases hne : l.take j = []
  · rw [hne]; exact Nat.zero_le _
  · have h1 := joinB_size gap (l.take j) hne
    have h2 := jsize_le gap l j
    omega
theorem ba_app_nil (a : ByteArray) : a ++ ⟨#[]⟩ = a := ba_inj (by rw [ba_append]; simp)
theorem right_kind {v : JV} (h : rightJ v = 0) : 0 ≤ v.k := by
  obtain ⟨k9, m9, e9, s9, l9, ks9⟩ := v
  have h0 := (right_ok h).1
  rw [show allJ (.mk k9 m9 e9 s9 l9 ks9) = (okOne (.mk k9 m9 e9 s9 l9 ks9) && allL l9) from rfl, Bool.and_eq_true] at h0
  exact (okF_of h0.1).kk.1
theorem size_s (v : JV) : v.s.size ≤ sizeJ v := by
  obtain ⟨k9, m9, e9, s9, l9, ks9⟩ := v
  show s9.size ≤ 1 + s9.size + keysN ks9 + sizeL l9
  omega
def joinD (l : List JV) (gap : ByteArray) : JV × Int := if l.any (fun v => decide (5 ≤ v.k)) then (zeroJ, 80) else doneJ (textV (joinB (l.map jpart) gap), 0)
theorem joinD_kind {l : List JV} {gap : ByteArray} (j : Nat) (h : j < l.length) (hk : 5 ≤ l[j].k) : joinD l gap = (zeroJ, 80) := by
  unfold joinD
  rw [if_pos (List.any_eq_true.2 ⟨l[j], List.getElem_mem h, by simpa using hk⟩)]
theorem joinD_text {l : List JV} {gap : ByteArray} (h : ∀ i (hi : i < l.length), l[i].k < 5) : joinD l gap = doneJ (textV (joinB (l.map jpart) gap), 0) := by
  unfold joinD
  rw [if_neg]
  rw [Bool.not_eq_true, List.any_eq_false]
  intro v hv
  obtain ⟨i, hi, rfl⟩ := List.getElem_of_mem hv
  have := h i hi
  simp; omega
set_option maxRecDepth 100000 in
set_option maxHeartbeats 4000000 in
theorem rwith_join (a b : JV) (w : World) (k m e : Int) (s : ByteArray) (A : Option Addr) (n c : Nat) (A' : Option Addr) (n' c' : Nat) (k2 m2 e2 : Int) (s2 : ByteArray) (B : Option Addr) (n2 d : Nat) (B' : Option Addr) (n2' d' : Nat) (hJ : JAt w w.heap.size a (cells6 k m e s A n c A' n' c')) (hJ2 : JAt w w.heap.size b (cells6 k2 m2 e2 s2 B n2 d B' n2' d')) (hza : countJ a ≤ 1000000) (hzb : countJ b ≤ 1000000) (ha : rightJ a = 0) (hb : rightJ b = 0) (hk : k = 5) (hk2 : k2 = 4) (hzl : sizeL a.l ≤ 1000000) (hjs : (∀ i (hi : i < a.l.length), a.l[i].k < 5) → jsize s2 a.l ≤ 900000) (hgp : s2.size ≤ 1000000) :
    Calls Tryz.prog 17 #[.string ⟨#[106, 111, 105, 110]⟩, .agg #[.int .i64 k, .int .i64 m, .int .i64 e, .string s, .slice A n c, .slice A' n' c'], .agg #[.int .i64 k2, .int .i64 m2, .int .i64 e2, .string s2, .slice B n2 d, .slice B' n2' d']] w fun r w' => RefPost w r w' (joinD a.l s2) := by
  have HJ := Keep.mk hJ
  have HJ2 := Keep.mk hJ2
  have HT := Keep.mk (OpS.new w k m e s A n c A' n' c' k2 m2 e2 s2 B n2 d B' n2' d' 27 27 27)
  clear hJ hJ2
  have HBL := Keep.mk (show badL [a, b] = 0 by show (if rightJ a ≠ 0 then rightJ a else if rightJ b ≠ 0 then rightJ b else 0) = 0; rw [ha, hb]; rfl)
  have HRE := Keep.mk (fun j (h : j < a.l.length) => right_elem ha j h)
  obtain ⟨hn, HV⟩ : n = a.l.length ∧ ∀ W, Below w.heap.size w W → ValsAt W W.heap.size A c a.l := by
    obtain ⟨k9, m9, e9, s9, l9, ks9⟩ := a
    obtain ⟨A9, c9, B9, d9, hcs, _, _, _, _, _, hV⟩ := JAt.open HJ.out
    simp only [cells6, List.cons.injEq, Value.slice.injEq, and_true] at hcs
    obtain ⟨_, _, _, _, ⟨rfl, rfl, rfl⟩, _⟩ := hcs
    exact ⟨rfl, fun W hb => (hV.below hb (Nat.le_refl _)).more hb.size⟩
  replace HV := Keep.mk HV
  obtain ⟨l, hl⟩ : ∃ l, a.l = l := ⟨_, rfl⟩
  have hzl := Keep.mk hzl
  have hjs := Keep.mk hjs
  have HRE2 := Keep.mk (show ∀ j (h : j < l.length), rightJ l[j] = 0 by subst hl; exact HRE.out)
  rw [hl] at HV hn hzl ⊢
  have HJS := Keep.mk (show (∀ i (hi : i < l.length), l[i].k < 5) → jsize s2 l ≤ 900000 by subst hl; exact hjs.out)
  have hcap := (HV.out w (Below.refl _ _)).cap
  subst hn hk hk2
  clear ha hb hl HRE hjs
  go_enter Tryz.func17, Tryz.ntmps17
  go_upto_region 1 with fail
  refine wp_world (fun W => OpS w W (cells6 5 m e s A l.length c A' n' c') (cells6 4 m2 e2 s2 B n2 d B' n2' d')) HT.out ?_
  clear HT
  rintro w1 HT
  replace HT := Keep.mk HT
  have x0 := HT.out.x.cell 0 _ rfl
  have x1 := HT.out.x.cell 1 _ rfl
  have x2 := HT.out.x.cell 2 _ rfl
  have x3 := HT.out.x.cell 3 _ rfl
  have x4 := HT.out.x.cell 4 _ rfl
  have x5 := HT.out.x.cell 5 _ rfl
  have xl := HT.out.x.lt
  have y0 := HT.out.y.cell 0 _ rfl
  have y1 := HT.out.y.cell 1 _ rfl
  have y2 := HT.out.y.cell 2 _ rfl
  have y3 := HT.out.y.cell 3 _ rfl
  have y4 := HT.out.y.cell 4 _ rfl
  have y5 := HT.out.y.cell 5 _ rfl
  have yl := HT.out.y.lt
  have HRI := Keep.mk (ref12_right a b hza hzb w1 _ _ (HJ.out.up HT.out.b) (HJ2.out.up HT.out.b))
  clear hza hzb
  go_wp2_with fail
  refine HRI.out.mono ?_
  rw [HBL.out]
  rintro r w2 ⟨rfl, hb2⟩
  replace HT := Keep.mk (HT.out.below hb2)
  clear hb2 HBL HRI
  clear x0 x1 x2 x3 x4 x5 y0 y1 y2 y3 y4 y5 xl yl
  clear HJ HJ2
  have x0 := HT.out.x.cell 0 _ rfl
  have x1 := HT.out.x.cell 1 _ rfl
  have x2 := HT.out.x.cell 2 _ rfl
  have x3 := HT.out.x.cell 3 _ rfl
  have x4 := HT.out.x.cell 4 _ rfl
  have x5 := HT.out.x.cell 5 _ rfl
  have xl := HT.out.x.lt
  have y0 := HT.out.y.cell 0 _ rfl
  have y1 := HT.out.y.cell 1 _ rfl
  have y2 := HT.out.y.cell 2 _ rfl
  have y3 := HT.out.y.cell 3 _ rfl
  have y4 := HT.out.y.cell 4 _ rfl
  have y5 := HT.out.y.cell 5 _ rfl
  have yl := HT.out.y.lt
  go_wp2_with fail
  go_loopg [14] l.length (fun gk i wr => ∃ j : Nat, j + gk = l.length ∧ i = .int .i64 j ∧ Keep (∀ i (hi : i < l.length), i < j → l[i].k < 5) ∧ w2 = wr)
  case atStart => exact ⟨0, by omega, rfl, ⟨fun i _ h => absurd h (Nat.not_lt_zero _)⟩, rfl⟩
  case round =>
    obtain ⟨j, hj, rfl, HA, rfl⟩ := hrel
    by_cases hlt : j < l.length
    · have hgk : gk ≠ 0 := by omega
      obtain ⟨g, o, k1, m1, e1, s1, A1, n1, d1, B1, q1, f1, rfl, hg, hJ1, z0, z1, z2, z3, z4, z5⟩ := (HV.out w2 HT.out.b).elem j hlt
      have hpk := Keep.mk hJ1.parts
      clear hJ1
      by_cases h5 : 5 ≤ k1
      · have HE := Keep.mk (joinD_kind (gap := s2) j hlt (by rw [hpk.out.1]; exact h5))
        clear hpk HA
        have r0 := HT.out.r.cell 0 _ rfl
        have f0 := HT.out.r.froz 0
        have r1 := HT.out.r.cell 1 _ rfl
        have f1 := HT.out.r.froz 1
        have r2 := HT.out.r.cell 2 _ rfl
        have f2 := HT.out.r.froz 2
        have r3 := HT.out.r.cell 3 _ rfl
        have f3 := HT.out.r.froz 3
        have r4 := HT.out.r.cell 4 _ rfl
        have f4 := HT.out.r.froz 4
        have r5 := HT.out.r.cell 5 _ rfl
        have f5 := HT.out.r.froz 5
        have rl := HT.out.r.lt
        go_wp2
        refine bodyPost_ret (v := .tuple #[.agg #[.int .i64 0, .int .i64 0, .int .i64 0, .string ⟨#[]⟩, .slice none 0 0, .slice none 0 0], .int .i64 80]) ?_ rfl ⟨_, by rw [HE.out], by rw [HE.out]; exact zero_at12 _ _, HT.out.b.trans (six_below w2 (w.heap.size + 2) (.int .i64 0) (.int .i64 0) (.int .i64 0) (.string ⟨#[]⟩) (.slice none 0 0) (.slice none 0 0) (by omega))⟩
        simp [results, Tryz.results17, go_sem, r0, r1, r2, r3, r4, r5]
      · have HA2 := Keep.mk (show ∀ i (hi : i < l.length), i < j + 1 → l[i].k < 5 from fun i hi h => by
          by_cases e : i = j
          · subst e; rw [hpk.out.1]; omega
          · exact HA.out i hi (by omega))
        clear hpk HA
        go_wp2
        go_roundg (gk - 1)
        case rel => exact ⟨j + 1, by omega, by go_num, HA2, rfl⟩
        case measure => omega
    · obtain rfl : j = l.length := by omega
      have HAL := Keep.mk (show ∀ i (hi : i < l.length), l[i].k < 5 from fun i hi => HA.out i hi hi)
      have HJL := Keep.mk (HJS.out HAL.out)
      have HE9 := Keep.mk (joinD_text (gap := s2) HAL.out)
      clear HA HJS
      go_wp2_with fail
      go_loopg [13, 15] l.length (fun gk v9 i wr => ∃ j : Nat, j + gk = l.length ∧ i = .int .i64 j ∧ ∃ q : ByteArray, v9 = .string q ∧ Keep (q = joinB ((l.take j).map jpart) s2) ∧ Keep (OpS w wr (cells6 5 m e s A l.length c A' n' c') (cells6 4 m2 e2 s2 B n2 d B' n2' d')))
      case atStart => exact ⟨0, by omega, rfl, ⟨#[]⟩, rfl, ⟨(join_none s2 l).symm⟩, HT⟩
      case round =>
        clear HT x0 x1 x2 x3 x4 x5 y0 y1 y2 y3 y4 y5 xl yl
        obtain ⟨j, hj, rfl, q, rfl, HE, HT⟩ := hrel
        have x0 := HT.out.x.cell 0 _ rfl
        have x1 := HT.out.x.cell 1 _ rfl
        have x2 := HT.out.x.cell 2 _ rfl
        have x3 := HT.out.x.cell 3 _ rfl
        have x4 := HT.out.x.cell 4 _ rfl
        have x5 := HT.out.x.cell 5 _ rfl
        have xl := HT.out.x.lt
        have y0 := HT.out.y.cell 0 _ rfl
        have y1 := HT.out.y.cell 1 _ rfl
        have y2 := HT.out.y.cell 2 _ rfl
        have y3 := HT.out.y.cell 3 _ rfl
        have y4 := HT.out.y.cell 4 _ rfl
        have y5 := HT.out.y.cell 5 _ rfl
        have yl := HT.out.y.lt
        by_cases hlt : j < l.length
        · have hgk : gk ≠ 0 := by omega
          obtain ⟨g, o, k1, m1, e1, s1, A1, n1, d1, B1, q1, f1, rfl, hg, hJ1, z0, z1, z2, z3, z4, z5⟩ := (HV.out wr HT.out.b).elem j hlt
          have hpk := Keep.mk hJ1.parts
          have HST := Keep.mk (join_step s2 l j hlt)
          have hqz : q.size ≤ 900000 := by rw [HE.out]; exact Nat.le_trans (join_le s2 l j) HJL.out
          have hzj := Nat.le_trans (sizeL_at l j hlt) hzl.out
          have hr1 := HRE2.out j hlt
          have h5 : k1 < 5 := by rw [← hpk.out.1]; exact HAL.out j hlt
          have HKK := Keep.mk (show 0 ≤ k1 by rw [← hpk.out.1]; exact right_kind hr1)
          obtain ⟨b, hb⟩ : ∃ b : ByteArray, b.data.toList = textJ textN l[j] := ⟨⟨(textJ textN l[j]).toArray⟩, by simp⟩
          have HTX := Keep.mk (ref7_Text _ l[j] (Nat.le_refl _) hzj (right_ok hr1).1 wr _ hJ1)
          rw [strB_as hb] at HTX
          have HBZ := Keep.mk (show b.size ≤ 4000000000 by have h1 := txt_len (right_ok hr1).1 hzj; rw [← hb] at h1; exact h1)
          have HSS := Keep.mk (show s1.size ≤ 140737488351232 by rw [← hpk.out.2.2.2]; exact Nat.le_trans (size_s _) (by omega))
          have HQ4 := Keep.mk (show k1 = 4 → jpart l[j] = s1 from fun h => by unfold jpart; rw [if_pos (by rw [hpk.out.1]; exact h), hpk.out.2.2.2])
          have HQ0 := Keep.mk (show k1 = 0 → jpart l[j] = ⟨#[]⟩ from fun h => by unfold jpart; rw [if_neg (by rw [hpk.out.1, h]; decide), if_pos (by rw [hpk.out.1]; exact h)])
          have HQE := Keep.mk (show k1 ≠ 4 → k1 ≠ 0 → jpart l[j] = b from fun h h2 => by
            unfold jpart
            rw [if_neg (by rw [hpk.out.1]; exact h), if_neg (by rw [hpk.out.1]; exact h2)]
            apply ba_inj
            rw [hb]
            show (printJ l[j]).toArray.toList = _
            rw [List.toList_toArray]
            unfold printJ
            rw [if_pos hr1])
          clear hJ1 hpk hzj hr1 hb
          have hbz := HBZ.out
          have hss := HSS.out
          by_cases hj0 : j = 0
          · rw [if_neg (by omega)] at HST
            have hjn : ¬ (0 : Int) < (j : Int) := by omega
            obtain rfl : q = ⟨#[]⟩ := by rw [HE.out, hj0]; exact join_none s2 l
            clear hj0
            by_cases h4 : k1 = 4
            · have HQ := Keep.mk (HQ4.out h4)
              subst h4
              clear HQ4 HQ0 HQE HTX
              go_wp2
              go_roundg (gk - 1)
              case rel => exact ⟨j + 1, by omega, by go_num, (⟨#[]⟩ ++ s1), by go_num, ⟨by rw [HST.out, HQ.out]⟩, ⟨HT.out⟩⟩
              case measure => omega
            · by_cases h0 : k1 = 0
              · have HQ := Keep.mk (HQ0.out h0)
                subst h0
                clear HQ4 HQ0 HQE HTX h4
                go_wp2
                go_roundg (gk - 1)
                case rel => exact ⟨j + 1, by omega, by go_num, ⟨#[]⟩, by go_num, ⟨by rw [HST.out, HQ.out]; simp only [ba_app_nil]⟩, ⟨HT.out⟩⟩
                case measure => omega
              · have HQ := Keep.mk (HQE.out h4 h0)
                have b4 : (k1 == 4) = false := by simpa using h4
                have hpos : 0 < k1 := by have := HKK.out; omega
                clear HQ4 HQ0 HQE h4 h0
                go_wp2_with fail
                refine HTX.out.mono ?_
                rintro r w4 ⟨rfl, hb4⟩
                replace HT := Keep.mk (HT.out.below hb4)
                clear hb4 HTX z0 z1 z2 z3 z4 z5
                clear x0 x1 x2 x3 x4 x5 y0 y1 y2 y3 y4 y5 xl yl
                have x0 := HT.out.x.cell 0 _ rfl
                have x1 := HT.out.x.cell 1 _ rfl
                have x2 := HT.out.x.cell 2 _ rfl
                have x3 := HT.out.x.cell 3 _ rfl
                have x4 := HT.out.x.cell 4 _ rfl
                have x5 := HT.out.x.cell 5 _ rfl
                have xl := HT.out.x.lt
                have y0 := HT.out.y.cell 0 _ rfl
                have y1 := HT.out.y.cell 1 _ rfl
                have y2 := HT.out.y.cell 2 _ rfl
                have y3 := HT.out.y.cell 3 _ rfl
                have y4 := HT.out.y.cell 4 _ rfl
                have y5 := HT.out.y.cell 5 _ rfl
                have yl := HT.out.y.lt
                go_wp2
                go_roundg (gk - 1)
                case rel => exact ⟨j + 1, by omega, by go_num, (⟨#[]⟩ ++ b), by go_num, ⟨by rw [HST.out, HQ.out]⟩, ⟨HT.out⟩⟩
                case measure => omega
          · rw [if_pos (by omega)] at HST
            have hjp : 0 < (j : Int) := by omega
            by_cases h4 : k1 = 4
            · have HQ := Keep.mk (HQ4.out h4)
              subst h4
              clear HQ4 HQ0 HQE HTX
              go_wp2
              go_roundg (gk - 1)
              case rel => exact ⟨j + 1, by omega, by go_num, ((q ++ s2) ++ s1), by go_num, ⟨by rw [HST.out, HQ.out, ← HE.out]⟩, ⟨HT.out⟩⟩
              case measure => omega
            · by_cases h0 : k1 = 0
              · have HQ := Keep.mk (HQ0.out h0)
                subst h0
                clear HQ4 HQ0 HQE HTX h4
                go_wp2
                go_roundg (gk - 1)
                case rel => exact ⟨j + 1, by omega, by go_num, (q ++ s2), by go_num, ⟨by rw [HST.out, HQ.out, ← HE.out]; simp only [ba_app_nil]⟩, ⟨HT.out⟩⟩
                case measure => omega
              · have HQ := Keep.mk (HQE.out h4 h0)
                have b4 : (k1 == 4) = false := by simpa using h4
                have hpos : 0 < k1 := by have := HKK.out; omega
                clear HQ4 HQ0 HQE h4 h0
                go_wp2_with fail
                refine HTX.out.mono ?_
                rintro r w4 ⟨rfl, hb4⟩
                replace HT := Keep.mk (HT.out.below hb4)
                clear hb4 HTX z0 z1 z2 z3 z4 z5
                clear x0 x1 x2 x3 x4 x5 y0 y1 y2 y3 y4 y5 xl yl
                have x0 := HT.out.x.cell 0 _ rfl
                have x1 := HT.out.x.cell 1 _ rfl
                have x2 := HT.out.x.cell 2 _ rfl
                have x3 := HT.out.x.cell 3 _ rfl
                have x4 := HT.out.x.cell 4 _ rfl
                have x5 := HT.out.x.cell 5 _ rfl
                have xl := HT.out.x.lt
                have y0 := HT.out.y.cell 0 _ rfl
                have y1 := HT.out.y.cell 1 _ rfl
                have y2 := HT.out.y.cell 2 _ rfl
                have y3 := HT.out.y.cell 3 _ rfl
                have y4 := HT.out.y.cell 4 _ rfl
                have y5 := HT.out.y.cell 5 _ rfl
                have yl := HT.out.y.lt
                go_wp2
                go_roundg (gk - 1)
                case rel => exact ⟨j + 1, by omega, by go_num, ((q ++ s2) ++ b), by go_num, ⟨by rw [HST.out, HQ.out, ← HE.out]⟩, ⟨HT.out⟩⟩
                case measure => omega
        · obtain rfl : j = l.length := by omega
          have hqz : q.size ≤ 900000 := by rw [HE.out]; exact Nat.le_trans (join_le s2 l l.length) HJL.out
          have HQ9 := Keep.mk (show joinB (l.map jpart) s2 = q by rw [HE.out, List.take_length])
          rw [HQ9.out] at HE9
          have HSZ := Keep.mk (show sizeJ (textV q) ≤ 1000000 by show 1 + q.size + 0 + 0 ≤ 1000000; omega)
          clear HE HQ9
          go_wp2_with fail
          refine (ref12_text q _).mono ?_
          rintro r w4 ⟨rfl, hb4⟩
          replace HT := Keep.mk (HT.out.below hb4)
          have HD := Keep.mk (ref12_done (textV q) 0 (fun _ => HSZ.out) w4 (cells6 4 0 0 q none 0 0 none 0 0) (fun _ => False) (fun _ h => h.elim) (text_in _ _ q (by omega)))
          clear hb4
          go_wp2_with fail
          refine HD.out.mono ?_
          obtain ⟨e7, he7⟩ : ∃ e7 : Int, (doneJ (textV q, 0)).2 = e7 := ⟨_, rfl⟩
          rintro r w5 ⟨cs', hr, hj5, hb5⟩
          rw [he7] at hr
          have HE7 := Keep.mk he7
          obtain ⟨k6, m6, e6, s6, A6, n6, c6, A5, n5, c5, rfl⟩ := hj5.cells
          have hr : r = .returned (.tuple #[.agg #[.int .i64 k6, .int .i64 m6, .int .i64 e6, .string s6, .slice A6 n6 c6, .slice A5 n5 c5], .int .i64 e7]) := hr
          subst hr
          replace HT := Keep.mk (HT.out.below hb5)
          have HJ5 := Keep.mk hj5
          have HR5 := Keep.mk (show w.heap.size + 2 < w5.heap.size from HT.out.r.lt)
          clear hb5 hj5 he7 HD
          clear x0 x1 x2 x3 x4 x5 y0 y1 y2 y3 y4 y5 xl yl
          have r0 := HT.out.r.cell 0 _ rfl
          have f0 := HT.out.r.froz 0
          have r1 := HT.out.r.cell 1 _ rfl
          have f1 := HT.out.r.froz 1
          have r2 := HT.out.r.cell 2 _ rfl
          have f2 := HT.out.r.froz 2
          have r3 := HT.out.r.cell 3 _ rfl
          have f3 := HT.out.r.froz 3
          have r4 := HT.out.r.cell 4 _ rfl
          have f4 := HT.out.r.froz 4
          have r5 := HT.out.r.cell 5 _ rfl
          have f5 := HT.out.r.froz 5
          have rl := HT.out.r.lt
          go_wp2
          refine bodyPost_ret (v := .tuple #[.agg #[.int .i64 k6, .int .i64 m6, .int .i64 e6, .string s6, .slice A6 n6 c6, .slice A5 n5 c5], .int .i64 e7]) ?_ rfl ?_
          · simp [results, Tryz.results17, go_sem, r0, r1, r2, r3, r4, r5]
          · refine ⟨_, by rw [HE9.out, HE7.out], ?_, HT.out.b.trans (six_below w5 (w.heap.size + 2) (.int .i64 k6) (.int .i64 m6) (.int .i64 e6) (.string s6) (.slice A6 n6 c6) (.slice A5 n5 c5) (by omega))⟩
            rw [HE9.out]
            exact (six_in (g := w.heap.size + 2) (.int .i64 k6) (.int .i64 m6) (.int .i64 e6) (.string s6) (.slice A6 n6 c6) (.slice A5 n5 c5) HJ5.out (fun h => h)).at (fun _ h => h.elim)
end Go.Proofs.YtnkokhpadcgfbaaGreatDoor
