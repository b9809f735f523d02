/- Lemmas and contracts for the laws CalcWith, part 47 of 50: WorksD. Conditions: those that each lemma names. -/
import Derived.Test.YtnkokhpadcgfbaaGreatDoorPw43
namespace Go.Proofs.YtnkokhpadcgfbaaGreatDoor
open Go Go.RowKit Go.Proofs Th
attribute [local go_sem] Above.cell
set_option maxRecDepth 100000 in
set_option maxHeartbeats 4000000 in
theorem law12_works (w : World) (hG : GlobW w) (hM : GlobM w) : Calls Tryz.prog 8 #[] w fun r w' => r = .returned (.bool true) ∧ Below w.heap.size w w' := by
  have HG := Keep.mk (fun W (hb : Below w.heap.size w W) => hG.below hb)
  have HM := Keep.mk (fun W (hb : Below w.heap.size w W) => hM.below hb)
  clear hG hM
  go_enter Tryz.func8, Tryz.ntmps8
  go_wp2_with fail
  refine (law_text _ _).mono ?_
  rintro r w1 ⟨rfl, hb1⟩
  go_wp2_with fail
  refine (law_text _ _).mono ?_
  rintro r w2 ⟨rfl, hb2⟩
  have HB := Keep.mk (up hb1 hb2)
  clear hb1 hb2
  go_wp2_with fail
  refine (wk_op1 w2 (HG.out _ HB.out) (HM.out _ HB.out)).mono ?_
  rintro r w3 ⟨cs, hr, hj, hb3⟩
  obtain ⟨A1, c1, B1, d1, rfl, _, _, _, _, _, hV1⟩ := JAt.open (show JAt w3 w3.heap.size (.mk 5 0 0 ⟨#[]⟩ [textV ⟨#[97]⟩, textV ⟨#[98]⟩] []) cs from hj.jat)
  have hr : r = .returned (.tuple #[.agg #[.int .i64 5, .int .i64 0, .int .i64 0, .string ⟨#[]⟩, .slice A1 2 c1, .slice B1 0 d1], .int .i64 0]) := hr
  subst hr
  have HV1 := Keep.mk (show ValsAt w3 w3.heap.size A1 c1 [textV ⟨#[97]⟩, textV ⟨#[98]⟩] from hV1)
  replace HB := Keep.mk (up HB.out hb3)
  clear hj hb3 hV1
  go_upto_region 2 with fail
  refine wp_world (fun W => Below w.heap.size w W ∧ Box W w3.heap.size (cells6 5 0 0 ⟨#[]⟩ A1 2 c1 B1 0 d1) ∧ ValsAt W W.heap.size A1 c1 [textV ⟨#[97]⟩, textV ⟨#[98]⟩]) ⟨up HB.out (al1 _ _), Box.new (cells6 5 0 0 ⟨#[]⟩ A1 2 c1 B1 0 d1) _ rfl, HV1.out.up (al1 _ _)⟩ ?_
  clear HB HV1
  rintro V1 ⟨HB, HX1, HV1⟩
  replace HB := Keep.mk HB
  replace HX1 := Keep.mk HX1
  replace HV1 := Keep.mk HV1
  go_wp2_with fail
  refine (law_digit _ _).mono ?_
  rintro r w4 ⟨rfl, hb4⟩
  go_wp2_with fail
  refine (law_digit _ _).mono ?_
  rintro r w5 ⟨rfl, hb5⟩
  go_wp2_with fail
  refine (law_digit _ _).mono ?_
  rintro r w6 ⟨rfl, hb6⟩
  have HR3 := Keep.mk (row3 w6 (digV (1, 0)) (digV (2, 0)) (digV (1, 0)) (cells6 3 1 0 ⟨#[]⟩ none 0 0 none 0 0) (cells6 3 2 0 ⟨#[]⟩ none 0 0 none 0 0) (cells6 3 1 0 ⟨#[]⟩ none 0 0 none 0 0) rfl rfl rfl (fun W B => dig_at W B 1 0 ⟨by decide, by decide⟩ ⟨by decide, by decide⟩) (fun W B => dig_at W B 2 0 ⟨by decide, by decide⟩ ⟨by decide, by decide⟩) (fun W B => dig_at W B 1 0 ⟨by decide, by decide⟩ ⟨by decide, by decide⟩) 27)
  have HQ6 := Keep.mk (up (up (up hb4 hb5) hb6) (al1 w6 (.cells ((cells6 3 1 0 ⟨#[]⟩ none 0 0 none 0 0) ++ ((cells6 3 2 0 ⟨#[]⟩ none 0 0 none 0 0) ++ (cells6 3 1 0 ⟨#[]⟩ none 0 0 none 0 0))).toArray 27)))
  clear hb4 hb5 hb6
  go_wp2_with fail
  refine (law_digit _ _).mono ?_
  rintro r w7 ⟨rfl, hb7⟩
  have HR1 := Keep.mk (row1 w7 (digV (1, 0)) (cells6 3 1 0 ⟨#[]⟩ none 0 0 none 0 0) rfl (fun W B => dig_at W B 1 0 ⟨by decide, by decide⟩ ⟨by decide, by decide⟩) 27)
  replace HR3 := Keep.mk (HR3.out.up (up hb7 (al1 w7 (.cells ((cells6 3 1 0 ⟨#[]⟩ none 0 0 none 0 0)).toArray 27))))
  replace HQ6 := Keep.mk (up (up HQ6.out hb7) (al1 w7 (.cells ((cells6 3 1 0 ⟨#[]⟩ none 0 0 none 0 0)).toArray 27)))
  clear hb7
  go_wp2_with fail
  refine (wk_op2 _ _ _ _ _ (HG.out _ (up HB.out HQ6.out)) HR3.out HR1.out).mono ?_
  rintro r w8 ⟨cs, hr, hj, hb8⟩
  obtain ⟨A2, c2, B2, d2, rfl, _, _, _, _, _, hV2⟩ := JAt.open (show JAt w8 w8.heap.size (.mk 5 0 0 ⟨#[]⟩ [digV (2, 0)] []) cs from hj.jat)
  have hr : r = .returned (.tuple #[.agg #[.int .i64 5, .int .i64 0, .int .i64 0, .string ⟨#[]⟩, .slice A2 1 c2, .slice B2 0 d2], .int .i64 0]) := hr
  subst hr
  have HV2 := Keep.mk (show ValsAt w8 w8.heap.size A2 c2 [digV (2, 0)] from hV2)
  have HQ8 := Keep.mk (up HQ6.out hb8)
  clear hj hb8 hV2 HR1 HR3 HQ6
  go_upto_region 3 with fail
  refine wp_world (fun W => Below V1.heap.size V1 W ∧ Box W w8.heap.size (cells6 5 0 0 ⟨#[]⟩ A2 1 c2 B2 0 d2) ∧ ValsAt W W.heap.size A2 c2 [digV (2, 0)]) ⟨up HQ8.out (al1 _ _), Box.new (cells6 5 0 0 ⟨#[]⟩ A2 1 c2 B2 0 d2) _ rfl, HV2.out.up (al1 _ _)⟩ ?_
  clear HV2
  rintro V2 ⟨hq, HX2, HV2⟩
  replace HX2 := Keep.mk HX2
  replace HV2 := Keep.mk HV2
  replace HX1 := Keep.mk (HX1.out.below hq HX1.out.lt)
  replace HV1 := Keep.mk (HV1.out.up hq)
  replace HB := Keep.mk (up HB.out hq)
  clear hq HQ8
  go_wp2_with fail
  refine (law_digit _ _).mono ?_
  rintro r w9 ⟨rfl, hb9⟩
  go_wp2_with fail
  refine (wk_op3 w9 (HG.out _ (up HB.out hb9))).mono ?_
  rintro r w10 ⟨cs, hr, hj, hb10⟩
  obtain ⟨A3, c3, B3, d3, rfl, _⟩ := JAt.open (show JAt w10 w10.heap.size (.mk 3 5 0 ⟨#[]⟩ [] []) cs from hj.jat)
  have hr : r = .returned (.tuple #[.agg #[.int .i64 3, .int .i64 5, .int .i64 0, .string ⟨#[]⟩, .slice A3 0 c3, .slice B3 0 d3], .int .i64 0]) := hr
  subst hr
  have HQ := Keep.mk (up hb9 hb10)
  clear hj hb9 hb10
  go_upto_region 4 with fail
  refine wp_world (fun W => Below V2.heap.size V2 W ∧ Box W w10.heap.size (cells6 3 5 0 ⟨#[]⟩ A3 0 c3 B3 0 d3)) ⟨up HQ.out (al1 _ _), Box.new (cells6 3 5 0 ⟨#[]⟩ A3 0 c3 B3 0 d3) _ rfl⟩ ?_
  rintro V3 ⟨hq, HX3⟩
  replace HX3 := Keep.mk HX3
  replace HX2 := Keep.mk (HX2.out.below hq HX2.out.lt)
  replace HV2 := Keep.mk (HV2.out.up hq)
  replace HX1 := Keep.mk (HX1.out.below hq HX1.out.lt)
  replace HV1 := Keep.mk (HV1.out.up hq)
  replace HB := Keep.mk (up HB.out hq)
  clear hq HQ
  go_wp2_with fail
  refine (law_text _ _).mono ?_
  rintro r w11 ⟨rfl, hb11⟩
  go_wp2_with fail
  refine (law_digit _ _).mono ?_
  rintro r w12 ⟨rfl, hb12⟩
  have HR3 := Keep.mk (row3 w12 (textV ⟨#[97]⟩) zeroJ (digV (1, 0)) (cells6 4 0 0 ⟨#[97]⟩ none 0 0 none 0 0) (cells6 0 0 0 ⟨#[]⟩ none 0 0 none 0 0) (cells6 3 1 0 ⟨#[]⟩ none 0 0 none 0 0) rfl rfl rfl (fun W B => textv_at W B _ (by decide)) (fun W B => zero_at W B) (fun W B => dig_at W B 1 0 ⟨by decide, by decide⟩ ⟨by decide, by decide⟩) 27)
  have HQ6 := Keep.mk (up (up hb11 hb12) (al1 w12 (.cells ((cells6 4 0 0 ⟨#[97]⟩ none 0 0 none 0 0) ++ ((cells6 0 0 0 ⟨#[]⟩ none 0 0 none 0 0) ++ (cells6 3 1 0 ⟨#[]⟩ none 0 0 none 0 0))).toArray 27)))
  clear hb11 hb12
  go_wp2_with fail
  refine (law_text _ _).mono ?_
  rintro r w13 ⟨rfl, hb13⟩
  replace HR3 := Keep.mk (HR3.out.up hb13)
  replace HQ6 := Keep.mk (up HQ6.out hb13)
  clear hb13
  go_wp2_with fail
  refine (wk_op4 _ _ _ (HG.out _ (up HB.out HQ6.out)) HR3.out).mono ?_
  rintro r w14 ⟨cs, hr, hj, hb14⟩
  obtain ⟨A4, c4, B4, d4, rfl, _⟩ := JAt.open (show JAt w14 w14.heap.size (.mk 4 0 0 ⟨#[97, 45, 45, 49]⟩ [] []) cs from hj.jat)
  have hr : r = .returned (.tuple #[.agg #[.int .i64 4, .int .i64 0, .int .i64 0, .string ⟨#[97, 45, 45, 49]⟩, .slice A4 0 c4, .slice B4 0 d4], .int .i64 0]) := hr
  subst hr
  have HQ := Keep.mk (up HQ6.out hb14)
  clear hj hb14 HR3 HQ6
  go_upto_region 5 with fail
  refine wp_world (fun W => Below V3.heap.size V3 W ∧ Box W w14.heap.size (cells6 4 0 0 ⟨#[97, 45, 45, 49]⟩ A4 0 c4 B4 0 d4)) ⟨up HQ.out (al1 _ _), Box.new (cells6 4 0 0 ⟨#[97, 45, 45, 49]⟩ A4 0 c4 B4 0 d4) _ rfl⟩ ?_
  rintro V4 ⟨hq, HX4⟩
  replace HX4 := Keep.mk HX4
  replace HX3 := Keep.mk (HX3.out.below hq HX3.out.lt)
  replace HX2 := Keep.mk (HX2.out.below hq HX2.out.lt)
  replace HV2 := Keep.mk (HV2.out.up hq)
  replace HX1 := Keep.mk (HX1.out.below hq HX1.out.lt)
  replace HV1 := Keep.mk (HV1.out.up hq)
  replace HB := Keep.mk (up HB.out hq)
  clear hq HQ
  go_wp2_with fail
  refine (law_digit _ _).mono ?_
  rintro r w15 ⟨rfl, hb15⟩
  go_wp2_with fail
  refine (law_text _ _).mono ?_
  rintro r w16 ⟨rfl, hb16⟩
  go_wp2_with fail
  refine (wk_op5 w16 (HG.out _ (up HB.out (up hb15 hb16)))).mono ?_
  rintro r w17 ⟨cs, hr, hj, hb17⟩
  obtain ⟨A5, c5, B5, d5, rfl, _⟩ := JAt.open (show JAt w17 w17.heap.size (.mk 0 0 0 ⟨#[]⟩ [] []) cs from hj.jat)
  have hr : r = .returned (.tuple #[.agg #[.int .i64 0, .int .i64 0, .int .i64 0, .string ⟨#[]⟩, .slice A5 0 c5, .slice B5 0 d5], .int .i64 80]) := hr
  subst hr
  have HQ := Keep.mk (up (up hb15 hb16) hb17)
  clear hj hb15 hb16 hb17
  go_upto_region 6 with fail
  refine wp_world (fun W => Below V4.heap.size V4 W) (up HQ.out (al1 _ _)) ?_
  rintro V5 hq
  replace HX4 := Keep.mk (HX4.out.below hq HX4.out.lt)
  replace HX3 := Keep.mk (HX3.out.below hq HX3.out.lt)
  replace HX2 := Keep.mk (HX2.out.below hq HX2.out.lt)
  replace HV2 := Keep.mk (HV2.out.up hq)
  replace HX1 := Keep.mk (HX1.out.below hq HX1.out.lt)
  replace HV1 := Keep.mk (HV1.out.up hq)
  replace HB := Keep.mk (up HB.out hq)
  clear hq HQ HG HM
  have p4 := HX1.out.cell 4 _ rfl
  have pl := HX1.out.lt
  have q4 := HX2.out.cell 4 _ rfl
  have ql := HX2.out.lt
  have s1 := HX3.out.cell 1 _ rfl
  have sl := HX3.out.lt
  have t3 := HX4.out.cell 3 _ rfl
  have tl := HX4.out.lt
  obtain ⟨g1, o1, k1, m1, e1, b1, F1, n1, f1, F2, n2, f2, rfl, hg1, hJ1, _, _, _, u3, _⟩ := HV1.out.elem 1 (by decide)
  obtain ⟨g2, o2, k2, m2, e2, b2, F3, n3, f3, F4, n4, f4, rfl, hg2, hJ2, _, v1, _⟩ := HV2.out.elem 0 (by decide)
  obtain ⟨_, _, _, hs1⟩ := hJ1.parts
  obtain ⟨_, hm2, _⟩ := hJ2.parts
  obtain rfl : (⟨#[98]⟩ : ByteArray) = b1 := hs1
  obtain rfl : (2 : Int) = m2 := hm2
  clear hJ1 hJ2 HX1 HX2 HX3 HX4 HV1 HV2
  go_wp2
  go_ret
  exact ⟨rfl, HB.out⟩
theorem int_le {b : Nat} (h : decide ((1000 : Int) < (b : Int)) = false) : b ≤ 1000 := by
  have : (b : Int) ≤ 1000 := by simpa using h
  omega
set_option maxRecDepth 100000 in
theorem law12_great (l : List JV) (A : Option Addr) (c : Nat) (w : World) (hV : ValsAt w w.heap.size A c l) :
    Calls Tryz.prog 7 #[.slice A l.length c] w fun r w' => ∃ g : Bool, r = .returned (.bool g) ∧ (g = false → 1 + sizeL l ≤ 1000) ∧ Below w.heap.size w w' := by
  have HC := Keep.mk (ref3_Bulk _ (.mk 0 0 0 ⟨#[]⟩ l []) (Nat.le_refl _) 1000 (by decide) w (cells6 0 0 0 ⟨#[]⟩ A l.length c none 0 0)
    (JAt.shut (ks := []) ⟨by decide, by decide⟩ ⟨by decide, by decide⟩ ⟨by decide, by decide⟩ (by decide) ⟨Nat.le_refl _, by decide, by decide, fun _ h => absurd h List.not_mem_nil, fun h => absurd h (by decide)⟩ hV))
  have HZ := Keep.mk (show sizeJ (.mk 0 0 0 ⟨#[]⟩ l []) = 1 + sizeL l by show 1 + (⟨#[]⟩ : ByteArray).size + keysN [] + sizeL l = 1 + sizeL l; rw [show ((⟨#[]⟩ : ByteArray).size) = 0 from rfl, show keysN [] = 0 from rfl])
  clear hV
  go_enter Tryz.func7, Tryz.ntmps7
  go_wp2_with fail
  refine HC.out.mono ?_
  rintro r w1 ⟨b, rfl, h1, h2, hb⟩
  have H1 := Keep.mk (show b ≤ 1000 → 1 + sizeL l ≤ 1000 from fun h => by rw [← HZ.out, ← h1 h]; exact h)
  clear h1 HZ HC
  go_wp2
  go_ret
  exact ⟨_, rfl, fun h => H1.out (int_le h), hb⟩
end Go.Proofs.YtnkokhpadcgfbaaGreatDoor
