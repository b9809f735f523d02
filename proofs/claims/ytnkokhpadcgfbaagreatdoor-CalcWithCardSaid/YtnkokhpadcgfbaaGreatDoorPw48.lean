/- Lemmas and contracts for the laws CalcWith, part 48 of 50: WithC. Conditions: those that each lemma names. -/
import Derived.Test.YtnkokhpadcgfbaaGreatDoorPw41
import Derived.Test.YtnkokhpadcgfbaaGreatDoorPw42
import Derived.Test.YtnkokhpadcgfbaaGreatDoorPw43
import Derived.Test.YtnkokhpadcgfbaaGreatDoorPw45
namespace Go.Proofs.YtnkokhpadcgfbaaGreatDoor
open Go Go.RowKit Go.Proofs Th
attribute [local go_sem] Above.cell
set_option maxRecDepth 100000 in
set_option maxHeartbeats 4000000 in
theorem with_name (name : ByteArray) (a b : JV) (w : World) (k m e : Int) (s : ByteArray) (A : Option Addr) (n c : Nat) (A' : Option Addr) (n' c' : Nat) (k2 m2 e2 : Int) (s2 : ByteArray) (B : Option Addr) (n2 d : Nat) (B' : Option Addr) (n2' d' : Nat) (_hG : GlobW w) (_hJ : JAt w w.heap.size a (cells6 k m e s A n c A' n' c')) (_hJ2 : JAt w w.heap.size b (cells6 k2 m2 e2 s2 B n2 d B' n2' d')) (h1 : (name.toList == [104, 97, 115]) = false) (h2 : (name.toList == [106, 111, 105, 110]) = false) :
    Calls Tryz.prog 16 #[.string name, .agg #[.int .i64 k, .int .i64 m, .int .i64 e, .string s, .slice A n c, .slice A' n' c'], .agg #[.int .i64 k2, .int .i64 m2, .int .i64 e2, .string s2, .slice B n2 d, .slice B' n2' d']] w fun r w' => OpPost w r w' (zeroJ, 100) := by
  have HT := Keep.mk (OpS.new w k m e s A n c A' n' c' k2 m2 e2 s2 B n2 d B' n2' d' 27 27 27)
  clear _hG _hJ _hJ2
  go_enter Tryz.func16, Tryz.ntmps16
  go_upto_region 1 with fail
  refine wp_world (fun W => OpS w W (cells6 k m e s A n c A' n' c') (cells6 k2 m2 e2 s2 B n2 d B' n2' d')) HT.out ?_
  clear HT
  rintro w1 HT
  replace HT := Keep.mk HT
  have HR2 : Box w1 (w.heap.size + 1 + 1) zero6 := HT.out.r
  have r0 := HR2.cell 0 _ rfl
  have f0 := HR2.froz 0
  have r1 := HR2.cell 1 _ rfl
  have f1 := HR2.froz 1
  have r2 := HR2.cell 2 _ rfl
  have f2 := HR2.froz 2
  have r3 := HR2.cell 3 _ rfl
  have f3 := HR2.froz 3
  have r4 := HR2.cell 4 _ rfl
  have f4 := HR2.froz 4
  have r5 := HR2.cell 5 _ rfl
  have f5 := HR2.froz 5
  have rl := HR2.lt
  go_wp2
  refine bodyPost_ret (v := .tuple #[.agg #[.int .i64 0, .int .i64 0, .int .i64 0, .string ⟨#[]⟩, .slice none 0 0, .slice none 0 0], .int .i64 100]) ?_ rfl ⟨_, rfl, zero_in _ _, HT.out.b.trans (six_below w1 (w.heap.size + 2) (.int .i64 0) (.int .i64 0) (.int .i64 0) (.string ⟨#[]⟩) (.slice none 0 0) (.slice none 0 0) (by omega))⟩
  simp [results, Tryz.results16, go_sem, r0, r1, r2, r3, r4, r5]
set_option maxRecDepth 100000 in
set_option maxHeartbeats 4000000 in
theorem with_bad_has (a b : JV) (w : World) (k m e : Int) (s : ByteArray) (A : Option Addr) (n c : Nat) (A' : Option Addr) (n' c' : Nat) (k2 m2 e2 : Int) (s2 : ByteArray) (B : Option Addr) (n2 d : Nat) (B' : Option Addr) (n2' d' : Nat) (hG : GlobW w) (hJ : JAt w w.heap.size a (cells6 k m e s A n c A' n' c')) (hJ2 : JAt w w.heap.size b (cells6 k2 m2 e2 s2 B n2 d B' n2' d')) (er : Int) (hne : (er == 0) = false) (hbl : badL [a, b] = er) :
    Calls Tryz.prog 16 #[.string ⟨#[104, 97, 115]⟩, .agg #[.int .i64 k, .int .i64 m, .int .i64 e, .string s, .slice A n c, .slice A' n' c'], .agg #[.int .i64 k2, .int .i64 m2, .int .i64 e2, .string s2, .slice B n2 d, .slice B' n2' d']] w fun r w' => OpPost w r w' (zeroJ, er) := by
  have HG := Keep.mk (fun W (hb : Below w.heap.size w W) => hG.below hb)
  have HJ := Keep.mk hJ
  have HJ2 := Keep.mk hJ2
  have HT := Keep.mk (OpS.new w k m e s A n c A' n' c' k2 m2 e2 s2 B n2 d B' n2' d' 27 27 27)
  clear hG hJ hJ2
  have HBL := Keep.mk hbl
  clear hbl
  go_enter Tryz.func16, Tryz.ntmps16
  go_upto_region 1 with fail
  refine wp_world (fun W => OpS w W (cells6 k m e s A n c A' n' c') (cells6 k2 m2 e2 s2 B n2 d B' n2' d')) HT.out ?_
  clear HT
  rintro w1 HT
  replace HT := Keep.mk HT
  have x0 := HT.out.x.cell 0 _ rfl
  have x1 := HT.out.x.cell 1 _ rfl
  have x2 := HT.out.x.cell 2 _ rfl
  have x3 := HT.out.x.cell 3 _ rfl
  have x4 := HT.out.x.cell 4 _ rfl
  have x5 := HT.out.x.cell 5 _ rfl
  have xl := HT.out.x.lt
  have y0 := HT.out.y.cell 0 _ rfl
  have y1 := HT.out.y.cell 1 _ rfl
  have y2 := HT.out.y.cell 2 _ rfl
  have y3 := HT.out.y.cell 3 _ rfl
  have y4 := HT.out.y.cell 4 _ rfl
  have y5 := HT.out.y.cell 5 _ rfl
  have yl := HT.out.y.lt
  have HV := Keep.mk (two_vals w1 a b k m e s A n c A' n' c' k2 m2 e2 s2 B n2 d B' n2' d' (HJ.out.up HT.out.b) (HJ2.out.up HT.out.b) 27)
  go_wp2_with fail
  refine (calc_right [a, b] _ 2 _ (HG.out _ (up HT.out.b (al1 _ _))).weak HV.out).mono ?_
  rw [HBL.out]
  rintro r w2 ⟨rfl, hb2⟩
  replace HT := Keep.mk (HT.out.below (up (al1 _ _) hb2))
  clear hb2 HBL HV
  clear x0 x1 x2 x3 x4 x5 y0 y1 y2 y3 y4 y5 xl yl
  have r0 := HT.out.r.cell 0 _ rfl
  have f0 := HT.out.r.froz 0
  have r1 := HT.out.r.cell 1 _ rfl
  have f1 := HT.out.r.froz 1
  have r2 := HT.out.r.cell 2 _ rfl
  have f2 := HT.out.r.froz 2
  have r3 := HT.out.r.cell 3 _ rfl
  have f3 := HT.out.r.froz 3
  have r4 := HT.out.r.cell 4 _ rfl
  have f4 := HT.out.r.froz 4
  have r5 := HT.out.r.cell 5 _ rfl
  have f5 := HT.out.r.froz 5
  have rl := HT.out.r.lt
  go_wp2
  refine bodyPost_ret (v := .tuple #[.agg #[.int .i64 0, .int .i64 0, .int .i64 0, .string ⟨#[]⟩, .slice none 0 0, .slice none 0 0], .int .i64 er]) ?_ rfl ⟨_, rfl, zero_in _ _, HT.out.b.trans (six_below w2 (w.heap.size + 2) (.int .i64 0) (.int .i64 0) (.int .i64 0) (.string ⟨#[]⟩) (.slice none 0 0) (.slice none 0 0) (by omega))⟩
  simp [results, Tryz.results16, go_sem, r0, r1, r2, r3, r4, r5]
set_option maxRecDepth 100000 in
set_option maxHeartbeats 4000000 in
theorem with_bad_join (a b : JV) (w : World) (k m e : Int) (s : ByteArray) (A : Option Addr) (n c : Nat) (A' : Option Addr) (n' c' : Nat) (k2 m2 e2 : Int) (s2 : ByteArray) (B : Option Addr) (n2 d : Nat) (B' : Option Addr) (n2' d' : Nat) (hG : GlobW w) (hJ : JAt w w.heap.size a (cells6 k m e s A n c A' n' c')) (hJ2 : JAt w w.heap.size b (cells6 k2 m2 e2 s2 B n2 d B' n2' d')) (er : Int) (hne : (er == 0) = false) (hbl : badL [a, b] = er) :
    Calls Tryz.prog 16 #[.string ⟨#[106, 111, 105, 110]⟩, .agg #[.int .i64 k, .int .i64 m, .int .i64 e, .string s, .slice A n c, .slice A' n' c'], .agg #[.int .i64 k2, .int .i64 m2, .int .i64 e2, .string s2, .slice B n2 d, .slice B' n2' d']] w fun r w' => OpPost w r w' (zeroJ, er) := by
  have HG := Keep.mk (fun W (hb : Below w.heap.size w W) => hG.below hb)
  have HJ := Keep.mk hJ
  have HJ2 := Keep.mk hJ2
  have HT := Keep.mk (OpS.new w k m e s A n c A' n' c' k2 m2 e2 s2 B n2 d B' n2' d' 27 27 27)
  clear hG hJ hJ2
  have HBL := Keep.mk hbl
  clear hbl
  go_enter Tryz.func16, Tryz.ntmps16
  go_upto_region 1 with fail
  refine wp_world (fun W => OpS w W (cells6 k m e s A n c A' n' c') (cells6 k2 m2 e2 s2 B n2 d B' n2' d')) HT.out ?_
  clear HT
  rintro w1 HT
  replace HT := Keep.mk HT
  have x0 := HT.out.x.cell 0 _ rfl
  have x1 := HT.out.x.cell 1 _ rfl
  have x2 := HT.out.x.cell 2 _ rfl
  have x3 := HT.out.x.cell 3 _ rfl
  have x4 := HT.out.x.cell 4 _ rfl
  have x5 := HT.out.x.cell 5 _ rfl
  have xl := HT.out.x.lt
  have y0 := HT.out.y.cell 0 _ rfl
  have y1 := HT.out.y.cell 1 _ rfl
  have y2 := HT.out.y.cell 2 _ rfl
  have y3 := HT.out.y.cell 3 _ rfl
  have y4 := HT.out.y.cell 4 _ rfl
  have y5 := HT.out.y.cell 5 _ rfl
  have yl := HT.out.y.lt
  have HV := Keep.mk (two_vals w1 a b k m e s A n c A' n' c' k2 m2 e2 s2 B n2 d B' n2' d' (HJ.out.up HT.out.b) (HJ2.out.up HT.out.b) 27)
  go_wp2_with fail
  refine (calc_right [a, b] _ 2 _ (HG.out _ (up HT.out.b (al1 _ _))).weak HV.out).mono ?_
  rw [HBL.out]
  rintro r w2 ⟨rfl, hb2⟩
  replace HT := Keep.mk (HT.out.below (up (al1 _ _) hb2))
  clear hb2 HBL HV
  clear x0 x1 x2 x3 x4 x5 y0 y1 y2 y3 y4 y5 xl yl
  have r0 := HT.out.r.cell 0 _ rfl
  have f0 := HT.out.r.froz 0
  have r1 := HT.out.r.cell 1 _ rfl
  have f1 := HT.out.r.froz 1
  have r2 := HT.out.r.cell 2 _ rfl
  have f2 := HT.out.r.froz 2
  have r3 := HT.out.r.cell 3 _ rfl
  have f3 := HT.out.r.froz 3
  have r4 := HT.out.r.cell 4 _ rfl
  have f4 := HT.out.r.froz 4
  have r5 := HT.out.r.cell 5 _ rfl
  have f5 := HT.out.r.froz 5
  have rl := HT.out.r.lt
  go_wp2
  refine bodyPost_ret (v := .tuple #[.agg #[.int .i64 0, .int .i64 0, .int .i64 0, .string ⟨#[]⟩, .slice none 0 0, .slice none 0 0], .int .i64 er]) ?_ rfl ⟨_, rfl, zero_in _ _, HT.out.b.trans (six_below w2 (w.heap.size + 2) (.int .i64 0) (.int .i64 0) (.int .i64 0) (.string ⟨#[]⟩) (.slice none 0 0) (.slice none 0 0) (by omega))⟩
  simp [results, Tryz.results16, go_sem, r0, r1, r2, r3, r4, r5]
set_option maxRecDepth 100000 in
set_option maxHeartbeats 4000000 in
theorem with_has_map (a b : JV) (w : World) (k m e : Int) (s : ByteArray) (A : Option Addr) (n c : Nat) (A' : Option Addr) (n' c' : Nat) (k2 m2 e2 : Int) (s2 : ByteArray) (B : Option Addr) (n2 d : Nat) (B' : Option Addr) (n2' d' : Nat) (hG : GlobW w) (hJ : JAt w w.heap.size a (cells6 k m e s A n c A' n' c')) (hJ2 : JAt w w.heap.size b (cells6 k2 m2 e2 s2 B n2 d B' n2' d')) (ha : rightJ a = 0) (hb : rightJ b = 0) (hk : k = 6) (hk2 : k2 = 4) :
    Calls Tryz.prog 16 #[.string ⟨#[104, 97, 115]⟩, .agg #[.int .i64 k, .int .i64 m, .int .i64 e, .string s, .slice A n c, .slice A' n' c'], .agg #[.int .i64 k2, .int .i64 m2, .int .i64 e2, .string s2, .slice B n2 d, .slice B' n2' d']] w fun r w' => OpPost w r w' (truthV (hasK a.ks s2), 0) := by
  have HG := Keep.mk (fun W (hb : Below w.heap.size w W) => hG.below hb)
  have HJ := Keep.mk hJ
  have HJ2 := Keep.mk hJ2
  have HT := Keep.mk (OpS.new w k m e s A n c A' n' c' k2 m2 e2 s2 B n2 d B' n2' d' 27 27 27)
  clear hG hJ hJ2
  have HBL := Keep.mk (show badL [a, b] = 0 by show (if rightJ a ≠ 0 then rightJ a else if rightJ b ≠ 0 then rightJ b else 0) = 0; rw [ha, hb]; rfl)
  have HR := Keep.mk (show riseK a.ks = true from by
    obtain ⟨k, m, e, s, l, ks⟩ := a
    have := (right_ok ha).1
    rw [show allJ (.mk k m e s l ks) = (okOne (.mk k m e s l ks) && allL l) from rfl, Bool.and_eq_true] at this
    exact (ok_parts this.1).2.2.2.1)
  obtain ⟨hn', HK⟩ : n' = a.ks.length ∧ ∀ W, Below w.heap.size w W → StrsAt W W.heap.size A' c' a.ks := by
    obtain ⟨k9, m9, e9, s9, l9, ks9⟩ := a
    obtain ⟨A9, c9, B9, d9, hcs, _, _, _, _, hS, _⟩ := JAt.open HJ.out
    simp only [cells6, List.cons.injEq, Value.slice.injEq, and_true] at hcs
    obtain ⟨_, _, _, _, _, rfl, rfl, rfl⟩ := hcs
    exact ⟨rfl, fun W hb => (hS.below hb (Nat.le_refl _)).more hb.size⟩
  replace HK := Keep.mk HK
  replace hn' := Keep.mk hn'
  subst hk hk2
  clear ha hb
  go_enter Tryz.func16, Tryz.ntmps16
  go_upto_region 1 with fail
  refine wp_world (fun W => OpS w W (cells6 6 m e s A n c A' n' c') (cells6 4 m2 e2 s2 B n2 d B' n2' d')) HT.out ?_
  clear HT
  rintro w1 HT
  replace HT := Keep.mk HT
  have x0 := HT.out.x.cell 0 _ rfl
  have x1 := HT.out.x.cell 1 _ rfl
  have x2 := HT.out.x.cell 2 _ rfl
  have x3 := HT.out.x.cell 3 _ rfl
  have x4 := HT.out.x.cell 4 _ rfl
  have x5 := HT.out.x.cell 5 _ rfl
  have xl := HT.out.x.lt
  have y0 := HT.out.y.cell 0 _ rfl
  have y1 := HT.out.y.cell 1 _ rfl
  have y2 := HT.out.y.cell 2 _ rfl
  have y3 := HT.out.y.cell 3 _ rfl
  have y4 := HT.out.y.cell 4 _ rfl
  have y5 := HT.out.y.cell 5 _ rfl
  have yl := HT.out.y.lt
  have HV := Keep.mk (two_vals w1 a b 6 m e s A n c A' n' c' 4 m2 e2 s2 B n2 d B' n2' d' (HJ.out.up HT.out.b) (HJ2.out.up HT.out.b) 27)
  go_wp2_with fail
  refine (calc_right [a, b] _ 2 _ (HG.out _ (up HT.out.b (al1 _ _))).weak HV.out).mono ?_
  rw [HBL.out]
  rintro r w2 ⟨rfl, hb2⟩
  replace HT := Keep.mk (HT.out.below (up (al1 _ _) hb2))
  clear hb2 HBL HV
  clear x0 x1 x2 x3 x4 x5 y0 y1 y2 y3 y4 y5 xl yl
  have HS := Keep.mk (key_search a.ks s2 A' c' w2 (HK.out w2 HT.out.b) HR.out)
  rw [← hn'.out] at HS
  obtain ⟨z, hz⟩ : ∃ z : Bool, hasK a.ks s2 = z := ⟨_, rfl⟩
  rw [hz] at HS
  have HZ := Keep.mk hz
  clear hz HK HR hn' HG HJ HJ2
  have x0 := HT.out.x.cell 0 _ rfl
  have x1 := HT.out.x.cell 1 _ rfl
  have x2 := HT.out.x.cell 2 _ rfl
  have x3 := HT.out.x.cell 3 _ rfl
  have x4 := HT.out.x.cell 4 _ rfl
  have x5 := HT.out.x.cell 5 _ rfl
  have xl := HT.out.x.lt
  have y0 := HT.out.y.cell 0 _ rfl
  have y1 := HT.out.y.cell 1 _ rfl
  have y2 := HT.out.y.cell 2 _ rfl
  have y3 := HT.out.y.cell 3 _ rfl
  have y4 := HT.out.y.cell 4 _ rfl
  have y5 := HT.out.y.cell 5 _ rfl
  have yl := HT.out.y.lt
  go_wp2_with fail
  refine HS.out.mono ?_
  rintro r w3 ⟨i3, rfl, hb3⟩
  replace HT := Keep.mk (HT.out.below hb3)
  clear hb3 HS
  clear x0 x1 x2 x3 x4 x5 y0 y1 y2 y3 y4 y5 xl yl
  go_wp2_with fail
  refine (calc_truth2 z _).mono ?_
  rintro r w4 ⟨q, rfl, hq, hb9⟩
  replace HT := Keep.mk (HT.out.below hb9)
  clear hb9
  have r0 := HT.out.r.cell 0 _ rfl
  have f0 := HT.out.r.froz 0
  have r1 := HT.out.r.cell 1 _ rfl
  have f1 := HT.out.r.froz 1
  have r2 := HT.out.r.cell 2 _ rfl
  have f2 := HT.out.r.froz 2
  have r3 := HT.out.r.cell 3 _ rfl
  have f3 := HT.out.r.froz 3
  have r4 := HT.out.r.cell 4 _ rfl
  have f4 := HT.out.r.froz 4
  have r5 := HT.out.r.cell 5 _ rfl
  have f5 := HT.out.r.froz 5
  have rl := HT.out.r.lt
  go_wp2
  refine bodyPost_ret (v := .tuple #[.agg #[.int .i64 q, .int .i64 0, .int .i64 0, .string ⟨#[]⟩, .slice none 0 0, .slice none 0 0], .int .i64 0]) ?_ rfl ⟨_, rfl, by exact (by rw [HZ.out]; exact hq.out _ _), HT.out.b.trans (six_below w4 (w.heap.size + 2) (.int .i64 q) (.int .i64 0) (.int .i64 0) (.string ⟨#[]⟩) (.slice none 0 0) (.slice none 0 0) (by omega))⟩
  simp [results, Tryz.results16, go_sem, r0, r1, r2, r3, r4, r5]
set_option maxRecDepth 100000 in
set_option maxHeartbeats 4000000 in
theorem with_has_list (a b : JV) (w : World) (k m e : Int) (s : ByteArray) (A : Option Addr) (n c : Nat) (A' : Option Addr) (n' c' : Nat) (k2 m2 e2 : Int) (s2 : ByteArray) (B : Option Addr) (n2 d : Nat) (B' : Option Addr) (n2' d' : Nat) (hG : GlobW w) (hJ : JAt w w.heap.size a (cells6 k m e s A n c A' n' c')) (hJ2 : JAt w w.heap.size b (cells6 k2 m2 e2 s2 B n2 d B' n2' d')) (ha : rightJ a = 0) (hb : rightJ b = 0) (hk : k = 5) (hk2 : k2 = 3) (hn : n < 1000000000000000000) :
    Calls Tryz.prog 16 #[.string ⟨#[104, 97, 115]⟩, .agg #[.int .i64 k, .int .i64 m, .int .i64 e, .string s, .slice A n c, .slice A' n' c'], .agg #[.int .i64 k2, .int .i64 m2, .int .i64 e2, .string s2, .slice B n2 d, .slice B' n2' d']] w fun r w' => OpPost w r w' (truthV (hasN n m2 e2), 0) := by
  have HG := Keep.mk (fun W (hb : Below w.heap.size w W) => hG.below hb)
  have HJ := Keep.mk hJ
  have HJ2 := Keep.mk hJ2
  have HT := Keep.mk (OpS.new w k m e s A n c A' n' c' k2 m2 e2 s2 B n2 d B' n2' d' 27 27 27)
  clear hG hJ hJ2
  have HBL := Keep.mk (show badL [a, b] = 0 by show (if rightJ a ≠ 0 then rightJ a else if rightJ b ≠ 0 then rightJ b else 0) = 0; rw [ha, hb]; rfl)
  obtain ⟨HRN, hb2⟩ : right m2 e2 = true ∧ b = digV (m2, e2) := by
    obtain ⟨k9, m9, e9, s9, l9, ks9⟩ := b
    obtain ⟨e1, e3, e4, e5⟩ := JAt.parts HJ2.out
    have h0 := (right_ok hb).1
    rw [show allJ (.mk k9 m9 e9 s9 l9 ks9) = (okOne (.mk k9 m9 e9 s9 l9 ks9) && allL l9) from rfl, Bool.and_eq_true] at h0
    have F := okF_of h0.1
    obtain rfl : k9 = k2 := e1
    obtain rfl : m9 = m2 := e3
    obtain rfl : e9 = e2 := e4
    have e6 := F.ss (by omega)
    have e7 := F.ll (by omega)
    have e8 := F.kks (by omega)
    subst e6 e7 e8 hk2
    exact ⟨F.rr, rfl⟩
  have HN := Keep.mk (has_num HRN n hn)
  have HCW := Keep.mk (calc_whole n hn)
  have HC1 := Keep.mk (fun W (hw : Below w.heap.size w W) => order_Cmp (digV (0, 0)) b W (cells6 3 0 0 ⟨#[]⟩ none 0 0 none 0 0) _ (HG.out W hw).num (HG.out W hw).weak (dig_at W _ 0 0 ⟨by decide, by decide⟩ ⟨by decide, by decide⟩) (HJ2.out.up hw) (by kernel_rfl) hb)
  have hwr := (done_ok (p := (digV (wholeN n), 0)) (by rw [done_whole n hn])).2.2
  have HC2 := Keep.mk (fun W (hw : Below w.heap.size w W) => order_Cmp b (digV (wholeN n)) W _ (cells6 3 (wholeN n).1 (wholeN n).2 ⟨#[]⟩ none 0 0 none 0 0) (HG.out W hw).num (HG.out W hw).weak (HJ2.out.up hw) (dig_at W _ (wholeN n).1 (wholeN n).2 (whole_i64 n hn).1 (whole_i64 n hn).2) hb hwr)
  have HE := Keep.mk (show e2 ≤ 64 ∧ -64 ≤ e2 by
    unfold right at HRN
    by_cases hz : m2 = 0
    · rw [if_pos hz] at HRN
      have : e2 = 0 := by simpa using HRN
      omega
    · rw [if_neg hz] at HRN
      simp only [Bool.and_eq_true, decide_eq_true_eq] at HRN
      omega)
  have HL1 : cmpJ (digV (0, 0)) b = (cmpN 0 0 m2 e2).1 := by rw [hb2]; unfold digV cmpJ; rw [if_neg (by simp), if_pos rfl]
  have HL2 : cmpJ b (digV (wholeN n)) = (cmpN m2 e2 (wholeN n).1 (wholeN n).2).1 := by rw [hb2]; unfold digV cmpJ; rw [if_neg (by simp), if_pos rfl]
  rw [HL1] at HC1
  rw [HL2] at HC2
  obtain ⟨z1, hz1⟩ : ∃ z : Int, (cmpN 0 0 m2 e2).1 = z := ⟨_, rfl⟩
  obtain ⟨z2, hz2⟩ : ∃ z : Int, (cmpN m2 e2 (wholeN n).1 (wholeN n).2).1 = z := ⟨_, rfl⟩
  rw [hz1] at HC1 HN
  rw [hz2] at HC2 HN
  obtain ⟨⟨wm, we⟩, hwn⟩ : ∃ p, wholeN n = p := ⟨_, rfl⟩
  rw [hwn] at HCW HC2
  clear HL1 HL2 hz1 hz2 hwn hwr HRN hb2
  subst hk hk2
  clear ha hb hn
  go_enter Tryz.func16, Tryz.ntmps16
  go_upto_region 1 with fail
  refine wp_world (fun W => OpS w W (cells6 5 m e s A n c A' n' c') (cells6 3 m2 e2 s2 B n2 d B' n2' d')) HT.out ?_
  clear HT
  rintro w1 HT
  replace HT := Keep.mk HT
  have x0 := HT.out.x.cell 0 _ rfl
  have x1 := HT.out.x.cell 1 _ rfl
  have x2 := HT.out.x.cell 2 _ rfl
  have x3 := HT.out.x.cell 3 _ rfl
  have x4 := HT.out.x.cell 4 _ rfl
  have x5 := HT.out.x.cell 5 _ rfl
  have xl := HT.out.x.lt
  have y0 := HT.out.y.cell 0 _ rfl
  have y1 := HT.out.y.cell 1 _ rfl
  have y2 := HT.out.y.cell 2 _ rfl
  have y3 := HT.out.y.cell 3 _ rfl
  have y4 := HT.out.y.cell 4 _ rfl
  have y5 := HT.out.y.cell 5 _ rfl
  have yl := HT.out.y.lt
  have HV := Keep.mk (two_vals w1 a b 5 m e s A n c A' n' c' 3 m2 e2 s2 B n2 d B' n2' d' (HJ.out.up HT.out.b) (HJ2.out.up HT.out.b) 27)
  go_wp2_with fail
  refine (calc_right [a, b] _ 2 _ (HG.out _ (up HT.out.b (al1 _ _))).weak HV.out).mono ?_
  rw [HBL.out]
  rintro r w2 ⟨rfl, hb2⟩
  replace HT := Keep.mk (HT.out.below (up (al1 _ _) hb2))
  clear hb2 HBL HV
  clear x0 x1 x2 x3 x4 x5 y0 y1 y2 y3 y4 y5 xl yl
  have x0 := HT.out.x.cell 0 _ rfl
  have x1 := HT.out.x.cell 1 _ rfl
  have x2 := HT.out.x.cell 2 _ rfl
  have x3 := HT.out.x.cell 3 _ rfl
  have x4 := HT.out.x.cell 4 _ rfl
  have x5 := HT.out.x.cell 5 _ rfl
  have xl := HT.out.x.lt
  have y0 := HT.out.y.cell 0 _ rfl
  have y1 := HT.out.y.cell 1 _ rfl
  have y2 := HT.out.y.cell 2 _ rfl
  have y3 := HT.out.y.cell 3 _ rfl
  have y4 := HT.out.y.cell 4 _ rfl
  have y5 := HT.out.y.cell 5 _ rfl
  have yl := HT.out.y.lt
  have HD := Keep.mk (fun (z : Above w2) => calc_digit 0 0 z.val)
  have HC := Keep.mk (fun (z : Above w2) => HC1.out z.val (up HT.out.b z.property))
  go_wp2_with fail
  refine wp_region_above (by kernel_rfl) (by kernel_rfl) ?_
  repeat (go_big_quiet_step (first | (go_at_call 44; exact calls_above (HD.out _)) | (go_at_call 30; exact calls_above (HC.out _))))
  refine wpQuiet_nil ?_
  rintro _ ⟨y, rfl⟩
  replace HT := Keep.mk (HT.out.below y.property)
  clear HD HC HC1
  clear x0 x1 x2 x3 x4 x5 y0 y1 y2 y3 y4 y5 xl yl
  have x0 := HT.out.x.cell 0 _ rfl
  have x1 := HT.out.x.cell 1 _ rfl
  have x2 := HT.out.x.cell 2 _ rfl
  have x3 := HT.out.x.cell 3 _ rfl
  have x4 := HT.out.x.cell 4 _ rfl
  have x5 := HT.out.x.cell 5 _ rfl
  have xl := HT.out.x.lt
  have y0 := HT.out.y.cell 0 _ rfl
  have y1 := HT.out.y.cell 1 _ rfl
  have y2 := HT.out.y.cell 2 _ rfl
  have y3 := HT.out.y.cell 3 _ rfl
  have y4 := HT.out.y.cell 4 _ rfl
  have y5 := HT.out.y.cell 5 _ rfl
  have yl := HT.out.y.lt
  have HW := Keep.mk (fun (z : Above y.val) => HCW.out z.val)
  have HC := Keep.mk (fun (z : Above y.val) => HC2.out z.val (up HT.out.b z.property))
  go_wp2_with fail
  refine wp_region_above (by kernel_rfl) (by kernel_rfl) ?_
  repeat (go_big_quiet_step (first | (go_at_call 50; exact calls_above (HW.out _)) | (go_at_call 30; exact calls_above (HC.out _))))
  refine wpQuiet_nil ?_
  rintro _ ⟨x, rfl⟩
  replace HT := Keep.mk (HT.out.below x.property)
  clear HW HC HC2 HG HJ HJ2
  clear x0 x1 x2 x3 x4 x5 y0 y1 y2 y3 y4 y5 xl yl
  have x0 := HT.out.x.cell 0 _ rfl
  have x1 := HT.out.x.cell 1 _ rfl
  have x2 := HT.out.x.cell 2 _ rfl
  have x3 := HT.out.x.cell 3 _ rfl
  have x4 := HT.out.x.cell 4 _ rfl
  have x5 := HT.out.x.cell 5 _ rfl
  have xl := HT.out.x.lt
  have y0 := HT.out.y.cell 0 _ rfl
  have y1 := HT.out.y.cell 1 _ rfl
  have y2 := HT.out.y.cell 2 _ rfl
  have y3 := HT.out.y.cell 3 _ rfl
  have y4 := HT.out.y.cell 4 _ rfl
  have y5 := HT.out.y.cell 5 _ rfl
  have yl := HT.out.y.lt
  obtain ⟨z, hz⟩ : ∃ z : Bool, hasN n m2 e2 = z := ⟨_, rfl⟩
  rw [hz] at HN
  have HZ := Keep.mk hz
  clear hz
  by_cases c1 : 0 ≤ e2
  · by_cases c2 : z1 ≤ 0
    · have HB := Keep.mk (show decide (z2 < 0) = z by rw [← HN.out, decide_eq_true c1, decide_eq_true c2]; rfl)
      clear HN
      go_wp2_with fail
      refine (calc_truth2 (decide (z2 < 0)) _).mono ?_
      rintro r w7 ⟨q, rfl, hq, hb9⟩
      replace HT := Keep.mk (HT.out.below hb9)
      clear hb9
      have r0 := HT.out.r.cell 0 _ rfl
      have f0 := HT.out.r.froz 0
      have r1 := HT.out.r.cell 1 _ rfl
      have f1 := HT.out.r.froz 1
      have r2 := HT.out.r.cell 2 _ rfl
      have f2 := HT.out.r.froz 2
      have r3 := HT.out.r.cell 3 _ rfl
      have f3 := HT.out.r.froz 3
      have r4 := HT.out.r.cell 4 _ rfl
      have f4 := HT.out.r.froz 4
      have r5 := HT.out.r.cell 5 _ rfl
      have f5 := HT.out.r.froz 5
      have rl := HT.out.r.lt
      go_wp2
      refine bodyPost_ret (v := .tuple #[.agg #[.int .i64 q, .int .i64 0, .int .i64 0, .string ⟨#[]⟩, .slice none 0 0, .slice none 0 0], .int .i64 0]) ?_ rfl ⟨_, rfl, by exact (by rw [HZ.out, ← HB.out]; exact hq.out _ _), HT.out.b.trans (six_below w7 (w.heap.size + 2) (.int .i64 q) (.int .i64 0) (.int .i64 0) (.string ⟨#[]⟩) (.slice none 0 0) (.slice none 0 0) (by omega))⟩
      simp [results, Tryz.results16, go_sem, r0, r1, r2, r3, r4, r5]
    · have HB := Keep.mk (show false = z by rw [← HN.out, decide_eq_false c2, Bool.false_and, Bool.and_false])
      clear HN
      go_wp2_with fail
      refine (calc_truth2 (false) _).mono ?_
      rintro r w7 ⟨q, rfl, hq, hb9⟩
      replace HT := Keep.mk (HT.out.below hb9)
      clear hb9
      have r0 := HT.out.r.cell 0 _ rfl
      have f0 := HT.out.r.froz 0
      have r1 := HT.out.r.cell 1 _ rfl
      have f1 := HT.out.r.froz 1
      have r2 := HT.out.r.cell 2 _ rfl
      have f2 := HT.out.r.froz 2
      have r3 := HT.out.r.cell 3 _ rfl
      have f3 := HT.out.r.froz 3
      have r4 := HT.out.r.cell 4 _ rfl
      have f4 := HT.out.r.froz 4
      have r5 := HT.out.r.cell 5 _ rfl
      have f5 := HT.out.r.froz 5
      have rl := HT.out.r.lt
      go_wp2
      refine bodyPost_ret (v := .tuple #[.agg #[.int .i64 q, .int .i64 0, .int .i64 0, .string ⟨#[]⟩, .slice none 0 0, .slice none 0 0], .int .i64 0]) ?_ rfl ⟨_, rfl, by exact (by rw [HZ.out, ← HB.out]; exact hq.out _ _), HT.out.b.trans (six_below w7 (w.heap.size + 2) (.int .i64 q) (.int .i64 0) (.int .i64 0) (.string ⟨#[]⟩) (.slice none 0 0) (.slice none 0 0) (by omega))⟩
      simp [results, Tryz.results16, go_sem, r0, r1, r2, r3, r4, r5]
  · have HB := Keep.mk (show false = z by rw [← HN.out, decide_eq_false c1]; rfl)
    clear HN
    go_wp2_with fail
    refine (calc_truth2 (false) _).mono ?_
    rintro r w7 ⟨q, rfl, hq, hb9⟩
    replace HT := Keep.mk (HT.out.below hb9)
    clear hb9
    have r0 := HT.out.r.cell 0 _ rfl
    have f0 := HT.out.r.froz 0
    have r1 := HT.out.r.cell 1 _ rfl
    have f1 := HT.out.r.froz 1
    have r2 := HT.out.r.cell 2 _ rfl
    have f2 := HT.out.r.froz 2
    have r3 := HT.out.r.cell 3 _ rfl
    have f3 := HT.out.r.froz 3
    have r4 := HT.out.r.cell 4 _ rfl
    have f4 := HT.out.r.froz 4
    have r5 := HT.out.r.cell 5 _ rfl
    have f5 := HT.out.r.froz 5
    have rl := HT.out.r.lt
    go_wp2
    refine bodyPost_ret (v := .tuple #[.agg #[.int .i64 q, .int .i64 0, .int .i64 0, .string ⟨#[]⟩, .slice none 0 0, .slice none 0 0], .int .i64 0]) ?_ rfl ⟨_, rfl, by exact (by rw [HZ.out, ← HB.out]; exact hq.out _ _), HT.out.b.trans (six_below w7 (w.heap.size + 2) (.int .i64 q) (.int .i64 0) (.int .i64 0) (.string ⟨#[]⟩) (.slice none 0 0) (.slice none 0 0) (by omega))⟩
    simp [results, Tryz.results16, go_sem, r0, r1, r2, r3, r4, r5]
set_option maxRecDepth 100000 in
set_option maxHeartbeats 4000000 in
theorem with_join3 (a b : JV) (w : World) (k m e : Int) (s : ByteArray) (A : Option Addr) (n c : Nat) (A' : Option Addr) (n' c' : Nat) (k2 m2 e2 : Int) (s2 : ByteArray) (B : Option Addr) (n2 d : Nat) (B' : Option Addr) (n2' d' : Nat) (hG : GlobW w) (hJ : JAt w w.heap.size a (cells6 k m e s A n c A' n' c')) (hJ2 : JAt w w.heap.size b (cells6 k2 m2 e2 s2 B n2 d B' n2' d')) (ha : rightJ a = 0) (hb : rightJ b = 0) (hk : k = 5) (hk2 : k2 = 4) (t : JV) (er : Int) (hz : er = 0 → sizeJ t ≤ 1000000)
    (hc : ∀ W, Below w.heap.size w W → Calls Tryz.prog 51 #[.slice A n c, .string s2] W fun r w' => ∃ cs', r = .returned (.tuple #[.agg (List.toArray cs'), .int .i64 er]) ∧ JAt w' w'.heap.size t cs' ∧ Below W.heap.size W w') :
    Calls Tryz.prog 16 #[.string ⟨#[106, 111, 105, 110]⟩, .agg #[.int .i64 k, .int .i64 m, .int .i64 e, .string s, .slice A n c, .slice A' n' c'], .agg #[.int .i64 k2, .int .i64 m2, .int .i64 e2, .string s2, .slice B n2 d, .slice B' n2' d']] w fun r w' => OpPost w r w' (doneJ (t, er)) := by
  have HG := Keep.mk (fun W (hb : Below w.heap.size w W) => hG.below hb)
  have HJ := Keep.mk hJ
  have HJ2 := Keep.mk hJ2
  have HT := Keep.mk (OpS.new w k m e s A n c A' n' c' k2 m2 e2 s2 B n2 d B' n2' d' 27 27 27)
  clear hG hJ hJ2
  have HBL := Keep.mk (show badL [a, b] = 0 by show (if rightJ a ≠ 0 then rightJ a else if rightJ b ≠ 0 then rightJ b else 0) = 0; rw [ha, hb]; rfl)
  have HC := Keep.mk hc
  have HZ := Keep.mk hz
  subst hk hk2
  clear ha hb hc hz
  go_enter Tryz.func16, Tryz.ntmps16
  go_upto_region 1 with fail
  refine wp_world (fun W => OpS w W (cells6 5 m e s A n c A' n' c') (cells6 4 m2 e2 s2 B n2 d B' n2' d')) HT.out ?_
  clear HT
  rintro w1 HT
  replace HT := Keep.mk HT
  have x0 := HT.out.x.cell 0 _ rfl
  have x1 := HT.out.x.cell 1 _ rfl
  have x2 := HT.out.x.cell 2 _ rfl
  have x3 := HT.out.x.cell 3 _ rfl
  have x4 := HT.out.x.cell 4 _ rfl
  have x5 := HT.out.x.cell 5 _ rfl
  have xl := HT.out.x.lt
  have y0 := HT.out.y.cell 0 _ rfl
  have y1 := HT.out.y.cell 1 _ rfl
  have y2 := HT.out.y.cell 2 _ rfl
  have y3 := HT.out.y.cell 3 _ rfl
  have y4 := HT.out.y.cell 4 _ rfl
  have y5 := HT.out.y.cell 5 _ rfl
  have yl := HT.out.y.lt
  have HV := Keep.mk (two_vals w1 a b 5 m e s A n c A' n' c' 4 m2 e2 s2 B n2 d B' n2' d' (HJ.out.up HT.out.b) (HJ2.out.up HT.out.b) 27)
  go_wp2_with fail
  refine (calc_right [a, b] _ 2 _ (HG.out _ (up HT.out.b (al1 _ _))).weak HV.out).mono ?_
  rw [HBL.out]
  rintro r w2 ⟨rfl, hb2⟩
  replace HT := Keep.mk (HT.out.below (up (al1 _ _) hb2))
  clear hb2 HBL HV
  clear x0 x1 x2 x3 x4 x5 y0 y1 y2 y3 y4 y5 xl yl
  clear HJ HJ2
  have x0 := HT.out.x.cell 0 _ rfl
  have x1 := HT.out.x.cell 1 _ rfl
  have x2 := HT.out.x.cell 2 _ rfl
  have x3 := HT.out.x.cell 3 _ rfl
  have x4 := HT.out.x.cell 4 _ rfl
  have x5 := HT.out.x.cell 5 _ rfl
  have xl := HT.out.x.lt
  have y0 := HT.out.y.cell 0 _ rfl
  have y1 := HT.out.y.cell 1 _ rfl
  have y2 := HT.out.y.cell 2 _ rfl
  have y3 := HT.out.y.cell 3 _ rfl
  have y4 := HT.out.y.cell 4 _ rfl
  have y5 := HT.out.y.cell 5 _ rfl
  have yl := HT.out.y.lt
  go_wp2_with fail
  refine (HC.out w2 HT.out.b).mono ?_
  rintro r w3 ⟨cs', hr, hj, hb3⟩
  obtain ⟨k9, m9, e9, s9, A9, n9, c9, A8, n8, c8, rfl⟩ := hj.inn.cells
  have hr : r = .returned (.tuple #[.agg #[.int .i64 k9, .int .i64 m9, .int .i64 e9, .string s9, .slice A9 n9 c9, .slice A8 n8 c8], .int .i64 er]) := hr
  subst hr
  replace HT := Keep.mk (HT.out.below hb3)
  have HD := Keep.mk (calc_done t er HZ.out w3 _ (HG.out w3 HT.out.b) hj)
  clear hb3 hj HG HZ HC
  clear x0 x1 x2 x3 x4 x5 y0 y1 y2 y3 y4 y5 xl yl
  go_wp2_with fail
  refine HD.out.mono ?_
  obtain ⟨e7, he7⟩ : ∃ e7 : Int, (doneJ (t, er)).2 = e7 := ⟨_, rfl⟩
  rw [he7]
  have HE7 := Keep.mk he7
  clear he7 HD
  rintro r w4 ⟨cs', hr, hj, hb4⟩
  obtain ⟨k6, m6, e6, s6, A6, n6, c6, A5, n5, c5, rfl⟩ := hj.cells
  have hr : r = .returned (.tuple #[.agg #[.int .i64 k6, .int .i64 m6, .int .i64 e6, .string s6, .slice A6 n6 c6, .slice A5 n5 c5], .int .i64 e7]) := hr
  subst hr
  have hr3 := HT.out.r.lt
  have HW3 := Keep.mk HT.out.b.size
  replace HT := Keep.mk (HT.out.below hb4)
  have HJ4 := Keep.mk hj
  clear hb4 hj
  have r0 := HT.out.r.cell 0 _ rfl
  have f0 := HT.out.r.froz 0
  have r1 := HT.out.r.cell 1 _ rfl
  have f1 := HT.out.r.froz 1
  have r2 := HT.out.r.cell 2 _ rfl
  have f2 := HT.out.r.froz 2
  have r3 := HT.out.r.cell 3 _ rfl
  have f3 := HT.out.r.froz 3
  have r4 := HT.out.r.cell 4 _ rfl
  have f4 := HT.out.r.froz 4
  have r5 := HT.out.r.cell 5 _ rfl
  have f5 := HT.out.r.froz 5
  have rl := HT.out.r.lt
  go_wp2
  refine bodyPost_ret (v := .tuple #[.agg #[.int .i64 k6, .int .i64 m6, .int .i64 e6, .string s6, .slice A6 n6 c6, .slice A5 n5 c5], .int .i64 e7]) ?_ rfl ?_
  · simp [results, Tryz.results16, go_sem, r0, r1, r2, r3, r4, r5]
  · have hsz := six_size w4 (w.heap.size + 2) (.int .i64 k6) (.int .i64 m6) (.int .i64 e6) (.string s6) (.slice A6 n6 c6) (.slice A5 n5 c5)
    refine ⟨_, by rw [HE7.out]; rfl, (six_in (g := w.heap.size + 2) (.int .i64 k6) (.int .i64 m6) (.int .i64 e6) (.string s6) (.slice A6 n6 c6) (.slice A5 n5 c5) HJ4.out (fun h => by have := h.1; omega)).more (fun g hg => ⟨Nat.le_trans HW3.out hg.1, ?_⟩), HT.out.b.trans (six_below w4 (w.heap.size + 2) (.int .i64 k6) (.int .i64 m6) (.int .i64 e6) (.string s6) (.slice A6 n6 c6) (.slice A5 n5 c5) (by omega))⟩
    show g < (six w4 (w.heap.size + 2) (.int .i64 k6) (.int .i64 m6) (.int .i64 e6) (.string s6) (.slice A6 n6 c6) (.slice A5 n5 c5)).heap.size
    rw [hsz]; exact hg.2
set_option maxRecDepth 100000 in
set_option maxHeartbeats 4000000 in
theorem with_kind_join (a b : JV) (w : World) (k m e : Int) (s : ByteArray) (A : Option Addr) (n c : Nat) (A' : Option Addr) (n' c' : Nat) (k2 m2 e2 : Int) (s2 : ByteArray) (B : Option Addr) (n2 d : Nat) (B' : Option Addr) (n2' d' : Nat) (hG : GlobW w) (hJ : JAt w w.heap.size a (cells6 k m e s A n c A' n' c')) (hJ2 : JAt w w.heap.size b (cells6 k2 m2 e2 s2 B n2 d B' n2' d')) (ha : rightJ a = 0) (hb : rightJ b = 0) (hk : ((k == 5) && (k2 == 4)) = false) :
    Calls Tryz.prog 16 #[.string ⟨#[106, 111, 105, 110]⟩, .agg #[.int .i64 k, .int .i64 m, .int .i64 e, .string s, .slice A n c, .slice A' n' c'], .agg #[.int .i64 k2, .int .i64 m2, .int .i64 e2, .string s2, .slice B n2 d, .slice B' n2' d']] w fun r w' => OpPost w r w' (zeroJ, 80) := by
  have HG := Keep.mk (fun W (hb : Below w.heap.size w W) => hG.below hb)
  have HJ := Keep.mk hJ
  have HJ2 := Keep.mk hJ2
  have HT := Keep.mk (OpS.new w k m e s A n c A' n' c' k2 m2 e2 s2 B n2 d B' n2' d' 27 27 27)
  clear hG hJ hJ2
  have HBL := Keep.mk (show badL [a, b] = 0 by show (if rightJ a ≠ 0 then rightJ a else if rightJ b ≠ 0 then rightJ b else 0) = 0; rw [ha, hb]; rfl)
  clear ha hb
  go_enter Tryz.func16, Tryz.ntmps16
  go_upto_region 1 with fail
  refine wp_world (fun W => OpS w W (cells6 k m e s A n c A' n' c') (cells6 k2 m2 e2 s2 B n2 d B' n2' d')) HT.out ?_
  clear HT
  rintro w1 HT
  replace HT := Keep.mk HT
  have x0 := HT.out.x.cell 0 _ rfl
  have x1 := HT.out.x.cell 1 _ rfl
  have x2 := HT.out.x.cell 2 _ rfl
  have x3 := HT.out.x.cell 3 _ rfl
  have x4 := HT.out.x.cell 4 _ rfl
  have x5 := HT.out.x.cell 5 _ rfl
  have xl := HT.out.x.lt
  have y0 := HT.out.y.cell 0 _ rfl
  have y1 := HT.out.y.cell 1 _ rfl
  have y2 := HT.out.y.cell 2 _ rfl
  have y3 := HT.out.y.cell 3 _ rfl
  have y4 := HT.out.y.cell 4 _ rfl
  have y5 := HT.out.y.cell 5 _ rfl
  have yl := HT.out.y.lt
  have HV := Keep.mk (two_vals w1 a b k m e s A n c A' n' c' k2 m2 e2 s2 B n2 d B' n2' d' (HJ.out.up HT.out.b) (HJ2.out.up HT.out.b) 27)
  go_wp2_with fail
  refine (calc_right [a, b] _ 2 _ (HG.out _ (up HT.out.b (al1 _ _))).weak HV.out).mono ?_
  rw [HBL.out]
  rintro r w2 ⟨rfl, hb2⟩
  replace HT := Keep.mk (HT.out.below (up (al1 _ _) hb2))
  clear hb2 HBL HV
  clear x0 x1 x2 x3 x4 x5 y0 y1 y2 y3 y4 y5 xl yl
  have x0 := HT.out.x.cell 0 _ rfl
  have x1 := HT.out.x.cell 1 _ rfl
  have x2 := HT.out.x.cell 2 _ rfl
  have x3 := HT.out.x.cell 3 _ rfl
  have x4 := HT.out.x.cell 4 _ rfl
  have x5 := HT.out.x.cell 5 _ rfl
  have xl := HT.out.x.lt
  have y0 := HT.out.y.cell 0 _ rfl
  have y1 := HT.out.y.cell 1 _ rfl
  have y2 := HT.out.y.cell 2 _ rfl
  have y3 := HT.out.y.cell 3 _ rfl
  have y4 := HT.out.y.cell 4 _ rfl
  have y5 := HT.out.y.cell 5 _ rfl
  have yl := HT.out.y.lt
  by_cases h5 : k = 5
  · subst h5
    have b4 : (k2 == 4) = false := by simpa using hk
    clear hk
    have r0 := HT.out.r.cell 0 _ rfl
    have f0 := HT.out.r.froz 0
    have r1 := HT.out.r.cell 1 _ rfl
    have f1 := HT.out.r.froz 1
    have r2 := HT.out.r.cell 2 _ rfl
    have f2 := HT.out.r.froz 2
    have r3 := HT.out.r.cell 3 _ rfl
    have f3 := HT.out.r.froz 3
    have r4 := HT.out.r.cell 4 _ rfl
    have f4 := HT.out.r.froz 4
    have r5 := HT.out.r.cell 5 _ rfl
    have f5 := HT.out.r.froz 5
    have rl := HT.out.r.lt
    go_wp2
    refine bodyPost_ret (v := .tuple #[.agg #[.int .i64 0, .int .i64 0, .int .i64 0, .string ⟨#[]⟩, .slice none 0 0, .slice none 0 0], .int .i64 80]) ?_ rfl ⟨_, rfl, zero_in _ _, HT.out.b.trans (six_below w2 (w.heap.size + 2) (.int .i64 0) (.int .i64 0) (.int .i64 0) (.string ⟨#[]⟩) (.slice none 0 0) (.slice none 0 0) (by omega))⟩
    simp [results, Tryz.results16, go_sem, r0, r1, r2, r3, r4, r5]
  · have b5 : (k == 5) = false := by simpa using h5
    clear hk h5
    have r0 := HT.out.r.cell 0 _ rfl
    have f0 := HT.out.r.froz 0
    have r1 := HT.out.r.cell 1 _ rfl
    have f1 := HT.out.r.froz 1
    have r2 := HT.out.r.cell 2 _ rfl
    have f2 := HT.out.r.froz 2
    have r3 := HT.out.r.cell 3 _ rfl
    have f3 := HT.out.r.froz 3
    have r4 := HT.out.r.cell 4 _ rfl
    have f4 := HT.out.r.froz 4
    have r5 := HT.out.r.cell 5 _ rfl
    have f5 := HT.out.r.froz 5
    have rl := HT.out.r.lt
    go_wp2
    refine bodyPost_ret (v := .tuple #[.agg #[.int .i64 0, .int .i64 0, .int .i64 0, .string ⟨#[]⟩, .slice none 0 0, .slice none 0 0], .int .i64 80]) ?_ rfl ⟨_, rfl, zero_in _ _, HT.out.b.trans (six_below w2 (w.heap.size + 2) (.int .i64 0) (.int .i64 0) (.int .i64 0) (.string ⟨#[]⟩) (.slice none 0 0) (.slice none 0 0) (by omega))⟩
    simp [results, Tryz.results16, go_sem, r0, r1, r2, r3, r4, r5]
set_option maxRecDepth 100000 in
set_option maxHeartbeats 4000000 in
theorem with_kind_has (a b : JV) (w : World) (k m e : Int) (s : ByteArray) (A : Option Addr) (n c : Nat) (A' : Option Addr) (n' c' : Nat) (k2 m2 e2 : Int) (s2 : ByteArray) (B : Option Addr) (n2 d : Nat) (B' : Option Addr) (n2' d' : Nat) (hG : GlobW w) (hJ : JAt w w.heap.size a (cells6 k m e s A n c A' n' c')) (hJ2 : JAt w w.heap.size b (cells6 k2 m2 e2 s2 B n2 d B' n2' d')) (ha : rightJ a = 0) (hb : rightJ b = 0) (hk : ((k == 6) && (k2 == 4)) = false) (hkk : ((k == 5) && (k2 == 3)) = false) :
    Calls Tryz.prog 16 #[.string ⟨#[104, 97, 115]⟩, .agg #[.int .i64 k, .int .i64 m, .int .i64 e, .string s, .slice A n c, .slice A' n' c'], .agg #[.int .i64 k2, .int .i64 m2, .int .i64 e2, .string s2, .slice B n2 d, .slice B' n2' d']] w fun r w' => OpPost w r w' (zeroJ, 80) := by
  have HG := Keep.mk (fun W (hb : Below w.heap.size w W) => hG.below hb)
  have HJ := Keep.mk hJ
  have HJ2 := Keep.mk hJ2
  have HT := Keep.mk (OpS.new w k m e s A n c A' n' c' k2 m2 e2 s2 B n2 d B' n2' d' 27 27 27)
  clear hG hJ hJ2
  have HBL := Keep.mk (show badL [a, b] = 0 by show (if rightJ a ≠ 0 then rightJ a else if rightJ b ≠ 0 then rightJ b else 0) = 0; rw [ha, hb]; rfl)
  clear ha hb
  go_enter Tryz.func16, Tryz.ntmps16
  go_upto_region 1 with fail
  refine wp_world (fun W => OpS w W (cells6 k m e s A n c A' n' c') (cells6 k2 m2 e2 s2 B n2 d B' n2' d')) HT.out ?_
  clear HT
  rintro w1 HT
  replace HT := Keep.mk HT
  have x0 := HT.out.x.cell 0 _ rfl
  have x1 := HT.out.x.cell 1 _ rfl
  have x2 := HT.out.x.cell 2 _ rfl
  have x3 := HT.out.x.cell 3 _ rfl
  have x4 := HT.out.x.cell 4 _ rfl
  have x5 := HT.out.x.cell 5 _ rfl
  have xl := HT.out.x.lt
  have y0 := HT.out.y.cell 0 _ rfl
  have y1 := HT.out.y.cell 1 _ rfl
  have y2 := HT.out.y.cell 2 _ rfl
  have y3 := HT.out.y.cell 3 _ rfl
  have y4 := HT.out.y.cell 4 _ rfl
  have y5 := HT.out.y.cell 5 _ rfl
  have yl := HT.out.y.lt
  have HV := Keep.mk (two_vals w1 a b k m e s A n c A' n' c' k2 m2 e2 s2 B n2 d B' n2' d' (HJ.out.up HT.out.b) (HJ2.out.up HT.out.b) 27)
  go_wp2_with fail
  refine (calc_right [a, b] _ 2 _ (HG.out _ (up HT.out.b (al1 _ _))).weak HV.out).mono ?_
  rw [HBL.out]
  rintro r w2 ⟨rfl, hb2⟩
  replace HT := Keep.mk (HT.out.below (up (al1 _ _) hb2))
  clear hb2 HBL HV
  clear x0 x1 x2 x3 x4 x5 y0 y1 y2 y3 y4 y5 xl yl
  have x0 := HT.out.x.cell 0 _ rfl
  have x1 := HT.out.x.cell 1 _ rfl
  have x2 := HT.out.x.cell 2 _ rfl
  have x3 := HT.out.x.cell 3 _ rfl
  have x4 := HT.out.x.cell 4 _ rfl
  have x5 := HT.out.x.cell 5 _ rfl
  have xl := HT.out.x.lt
  have y0 := HT.out.y.cell 0 _ rfl
  have y1 := HT.out.y.cell 1 _ rfl
  have y2 := HT.out.y.cell 2 _ rfl
  have y3 := HT.out.y.cell 3 _ rfl
  have y4 := HT.out.y.cell 4 _ rfl
  have y5 := HT.out.y.cell 5 _ rfl
  have yl := HT.out.y.lt
  by_cases h6 : k = 6
  · subst h6
    have b4 : (k2 == 4) = false := by simpa using hk
    clear hk hkk
    have r0 := HT.out.r.cell 0 _ rfl
    have f0 := HT.out.r.froz 0
    have r1 := HT.out.r.cell 1 _ rfl
    have f1 := HT.out.r.froz 1
    have r2 := HT.out.r.cell 2 _ rfl
    have f2 := HT.out.r.froz 2
    have r3 := HT.out.r.cell 3 _ rfl
    have f3 := HT.out.r.froz 3
    have r4 := HT.out.r.cell 4 _ rfl
    have f4 := HT.out.r.froz 4
    have r5 := HT.out.r.cell 5 _ rfl
    have f5 := HT.out.r.froz 5
    have rl := HT.out.r.lt
    go_wp2
    refine bodyPost_ret (v := .tuple #[.agg #[.int .i64 0, .int .i64 0, .int .i64 0, .string ⟨#[]⟩, .slice none 0 0, .slice none 0 0], .int .i64 80]) ?_ rfl ⟨_, rfl, zero_in _ _, HT.out.b.trans (six_below w2 (w.heap.size + 2) (.int .i64 0) (.int .i64 0) (.int .i64 0) (.string ⟨#[]⟩) (.slice none 0 0) (.slice none 0 0) (by omega))⟩
    simp [results, Tryz.results16, go_sem, r0, r1, r2, r3, r4, r5]
  · have b6 : (k == 6) = false := by simpa using h6
    by_cases h5 : k = 5
    · subst h5
      have b3 : (k2 == 3) = false := by simpa using hkk
      clear hk hkk
      have r0 := HT.out.r.cell 0 _ rfl
      have f0 := HT.out.r.froz 0
      have r1 := HT.out.r.cell 1 _ rfl
      have f1 := HT.out.r.froz 1
      have r2 := HT.out.r.cell 2 _ rfl
      have f2 := HT.out.r.froz 2
      have r3 := HT.out.r.cell 3 _ rfl
      have f3 := HT.out.r.froz 3
      have r4 := HT.out.r.cell 4 _ rfl
      have f4 := HT.out.r.froz 4
      have r5 := HT.out.r.cell 5 _ rfl
      have f5 := HT.out.r.froz 5
      have rl := HT.out.r.lt
      go_wp2
      refine bodyPost_ret (v := .tuple #[.agg #[.int .i64 0, .int .i64 0, .int .i64 0, .string ⟨#[]⟩, .slice none 0 0, .slice none 0 0], .int .i64 80]) ?_ rfl ⟨_, rfl, zero_in _ _, HT.out.b.trans (six_below w2 (w.heap.size + 2) (.int .i64 0) (.int .i64 0) (.int .i64 0) (.string ⟨#[]⟩) (.slice none 0 0) (.slice none 0 0) (by omega))⟩
      simp [results, Tryz.results16, go_sem, r0, r1, r2, r3, r4, r5]
    · have b5 : (k == 5) = false := by simpa using h5
      clear hk hkk h5 h6
      have r0 := HT.out.r.cell 0 _ rfl
      have f0 := HT.out.r.froz 0
      have r1 := HT.out.r.cell 1 _ rfl
      have f1 := HT.out.r.froz 1
      have r2 := HT.out.r.cell 2 _ rfl
      have f2 := HT.out.r.froz 2
      have r3 := HT.out.r.cell 3 _ rfl
      have f3 := HT.out.r.froz 3
      have r4 := HT.out.r.cell 4 _ rfl
      have f4 := HT.out.r.froz 4
      have r5 := HT.out.r.cell 5 _ rfl
      have f5 := HT.out.r.froz 5
      have rl := HT.out.r.lt
      go_wp2
      refine bodyPost_ret (v := .tuple #[.agg #[.int .i64 0, .int .i64 0, .int .i64 0, .string ⟨#[]⟩, .slice none 0 0, .slice none 0 0], .int .i64 80]) ?_ rfl ⟨_, rfl, zero_in _ _, HT.out.b.trans (six_below w2 (w.heap.size + 2) (.int .i64 0) (.int .i64 0) (.int .i64 0) (.string ⟨#[]⟩) (.slice none 0 0) (.slice none 0 0) (by omega))⟩
      simp [results, Tryz.results16, go_sem, r0, r1, r2, r3, r4, r5]
end Go.Proofs.YtnkokhpadcgfbaaGreatDoor
