/- Lemmas and contracts for the laws CalcParts, part 32 of 33: RowM, WorksD, Explode. Conditions: those that each lemma names. -/
import Derived.Test.YtmacgdcmgbkfnaaGreatDoorPack16
import Derived.Test.YtmacgdcmgbkfnaaGreatDoorPack31
import Derived.Test.YtmacgdcmgbkfnaaGreatDoorPack29
import Derived.Test.YtmacgdcmgbkfnaaGreatDoorPack2
namespace Go.Proofs.YtmacgdcmgbkfnaaGreatDoor
open Go Go.RowKit Go.Proofs Th
theorem globM_of {W : World} (h : W.ShapedOpen Tryz.prog) : GlobM W := Tryz.laysM146.s1_3 W h
end Go.Proofs.YtmacgdcmgbkfnaaGreatDoor
namespace Go.Proofs.YtmacgdcmgbkfnaaGreatDoor
open Go Go.RowKit Go.Proofs Th
attribute [local go_sem] Above.cell
set_option maxRecDepth 100000 in
set_option maxHeartbeats 4000000 in
theorem law12_works (w : World) (hG : GlobW w) (hM : GlobM w) : Calls Tryz.prog 6 #[] w fun r w' => r = .returned (.bool true) ∧ Below w.heap.size w w' := by
  have HG := Keep.mk (fun W (hb : Below w.heap.size w W) => hG.below hb)
  have HM := Keep.mk (fun W (hb : Below w.heap.size w W) => hM.below hb)
  clear hG hM
  go_enter Tryz.func6, Tryz.ntmps6
  go_wp2_with fail
  refine (law_text _ _).mono ?_
  rintro r w1 ⟨rfl, hb1⟩
  go_wp2_with fail
  refine (law_text _ _).mono ?_
  rintro r w2 ⟨rfl, hb2⟩
  have HB := Keep.mk (up hb1 hb2)
  clear hb1 hb2
  go_wp2_with fail
  refine (wk_op1 w2 (HG.out _ HB.out) (HM.out _ HB.out)).mono ?_
  rintro r w3 ⟨cs, hr, hj, hb3⟩
  obtain ⟨A1, c1, B1, d1, rfl, _, _, _, _, _, hV1⟩ := JAt.open (show JAt w3 w3.heap.size (.mk 5 0 0 ⟨#[]⟩ [textV ⟨#[97]⟩, textV ⟨#[98]⟩] []) cs from hj.jat)
  have hr : r = .returned (.tuple #[.agg #[.int .i64 5, .int .i64 0, .int .i64 0, .string ⟨#[]⟩, .slice A1 2 c1, .slice B1 0 d1], .int .i64 0]) := hr
  subst hr
  have HV1 := Keep.mk (show ValsAt w3 w3.heap.size A1 c1 [textV ⟨#[97]⟩, textV ⟨#[98]⟩] from hV1)
  replace HB := Keep.mk (up HB.out hb3)
  clear hj hb3 hV1
  go_upto_region 2 with fail
  refine wp_world (fun W => Below w.heap.size w W ∧ Box W w3.heap.size (cells6 5 0 0 ⟨#[]⟩ A1 2 c1 B1 0 d1) ∧ ValsAt W W.heap.size A1 c1 [textV ⟨#[97]⟩, textV ⟨#[98]⟩]) ⟨up HB.out (al1 _ _), Box.new (cells6 5 0 0 ⟨#[]⟩ A1 2 c1 B1 0 d1) _ rfl, HV1.out.up (al1 _ _)⟩ ?_
  clear HB HV1
  rintro V1 ⟨HB, HX1, HV1⟩
  replace HB := Keep.mk HB
  replace HX1 := Keep.mk HX1
  replace HV1 := Keep.mk HV1
  go_wp2_with fail
  refine (law_digit _ _).mono ?_
  rintro r w4 ⟨rfl, hb4⟩
  go_wp2_with fail
  refine (law_digit _ _).mono ?_
  rintro r w5 ⟨rfl, hb5⟩
  go_wp2_with fail
  refine (law_digit _ _).mono ?_
  rintro r w6 ⟨rfl, hb6⟩
  have HR3 := Keep.mk (row3 w6 (digV (1, 0)) (digV (2, 0)) (digV (1, 0)) (cells6 3 1 0 ⟨#[]⟩ none 0 0 none 0 0) (cells6 3 2 0 ⟨#[]⟩ none 0 0 none 0 0) (cells6 3 1 0 ⟨#[]⟩ none 0 0 none 0 0) rfl rfl rfl (fun W B => dig_at W B 1 0 ⟨by decide, by decide⟩ ⟨by decide, by decide⟩) (fun W B => dig_at W B 2 0 ⟨by decide, by decide⟩ ⟨by decide, by decide⟩) (fun W B => dig_at W B 1 0 ⟨by decide, by decide⟩ ⟨by decide, by decide⟩) 27)
  have HQ6 := Keep.mk (up (up (up hb4 hb5) hb6) (al1 w6 (.cells ((cells6 3 1 0 ⟨#[]⟩ none 0 0 none 0 0) ++ ((cells6 3 2 0 ⟨#[]⟩ none 0 0 none 0 0) ++ (cells6 3 1 0 ⟨#[]⟩ none 0 0 none 0 0))).toArray 27)))
  clear hb4 hb5 hb6
  go_wp2_with fail
  refine (law_digit _ _).mono ?_
  rintro r w7 ⟨rfl, hb7⟩
  have HR1 := Keep.mk (row1 w7 (digV (1, 0)) (cells6 3 1 0 ⟨#[]⟩ none 0 0 none 0 0) rfl (fun W B => dig_at W B 1 0 ⟨by decide, by decide⟩ ⟨by decide, by decide⟩) 27)
  replace HR3 := Keep.mk (HR3.out.up (up hb7 (al1 w7 (.cells ((cells6 3 1 0 ⟨#[]⟩ none 0 0 none 0 0)).toArray 27))))
  replace HQ6 := Keep.mk (up (up HQ6.out hb7) (al1 w7 (.cells ((cells6 3 1 0 ⟨#[]⟩ none 0 0 none 0 0)).toArray 27)))
  clear hb7
  go_wp2_with fail
  refine (wk_op2 _ _ _ _ _ (HG.out _ (up HB.out HQ6.out)) HR3.out HR1.out).mono ?_
  rintro r w8 ⟨cs, hr, hj, hb8⟩
  obtain ⟨A2, c2, B2, d2, rfl, _, _, _, _, _, hV2⟩ := JAt.open (show JAt w8 w8.heap.size (.mk 5 0 0 ⟨#[]⟩ [digV (2, 0)] []) cs from hj.jat)
  have hr : r = .returned (.tuple #[.agg #[.int .i64 5, .int .i64 0, .int .i64 0, .string ⟨#[]⟩, .slice A2 1 c2, .slice B2 0 d2], .int .i64 0]) := hr
  subst hr
  have HV2 := Keep.mk (show ValsAt w8 w8.heap.size A2 c2 [digV (2, 0)] from hV2)
  have HQ8 := Keep.mk (up HQ6.out hb8)
  clear hj hb8 hV2 HR1 HR3 HQ6
  go_upto_region 3 with fail
  refine wp_world (fun W => Below V1.heap.size V1 W ∧ Box W w8.heap.size (cells6 5 0 0 ⟨#[]⟩ A2 1 c2 B2 0 d2) ∧ ValsAt W W.heap.size A2 c2 [digV (2, 0)]) ⟨up HQ8.out (al1 _ _), Box.new (cells6 5 0 0 ⟨#[]⟩ A2 1 c2 B2 0 d2) _ rfl, HV2.out.up (al1 _ _)⟩ ?_
  clear HV2
  rintro V2 ⟨hq, HX2, HV2⟩
  replace HX2 := Keep.mk HX2
  replace HV2 := Keep.mk HV2
  replace HX1 := Keep.mk (HX1.out.below hq HX1.out.lt)
  replace HV1 := Keep.mk (HV1.out.up hq)
  replace HB := Keep.mk (up HB.out hq)
  clear hq HQ8
  go_wp2_with fail
  refine (law_digit _ _).mono ?_
  rintro r w9 ⟨rfl, hb9⟩
  go_wp2_with fail
  refine (wk_op3 w9 (HG.out _ (up HB.out hb9))).mono ?_
  rintro r w10 ⟨cs, hr, hj, hb10⟩
  obtain ⟨A3, c3, B3, d3, rfl, _⟩ := JAt.open (show JAt w10 w10.heap.size (.mk 3 5 0 ⟨#[]⟩ [] []) cs from hj.jat)
  have hr : r = .returned (.tuple #[.agg #[.int .i64 3, .int .i64 5, .int .i64 0, .string ⟨#[]⟩, .slice A3 0 c3, .slice B3 0 d3], .int .i64 0]) := hr
  subst hr
  have HQ := Keep.mk (up hb9 hb10)
  clear hj hb9 hb10
  go_upto_region 4 with fail
  refine wp_world (fun W => Below V2.heap.size V2 W ∧ Box W w10.heap.size (cells6 3 5 0 ⟨#[]⟩ A3 0 c3 B3 0 d3)) ⟨up HQ.out (al1 _ _), Box.new (cells6 3 5 0 ⟨#[]⟩ A3 0 c3 B3 0 d3) _ rfl⟩ ?_
  rintro V3 ⟨hq, HX3⟩
  replace HX3 := Keep.mk HX3
  replace HX2 := Keep.mk (HX2.out.below hq HX2.out.lt)
  replace HV2 := Keep.mk (HV2.out.up hq)
  replace HX1 := Keep.mk (HX1.out.below hq HX1.out.lt)
  replace HV1 := Keep.mk (HV1.out.up hq)
  replace HB := Keep.mk (up HB.out hq)
  clear hq HQ
  go_wp2_with fail
  refine (law_text _ _).mono ?_
  rintro r w11 ⟨rfl, hb11⟩
  go_wp2_with fail
  refine (law_digit _ _).mono ?_
  rintro r w12 ⟨rfl, hb12⟩
  have HR3 := Keep.mk (row3 w12 (textV ⟨#[97]⟩) zeroJ (digV (1, 0)) (cells6 4 0 0 ⟨#[97]⟩ none 0 0 none 0 0) (cells6 0 0 0 ⟨#[]⟩ none 0 0 none 0 0) (cells6 3 1 0 ⟨#[]⟩ none 0 0 none 0 0) rfl rfl rfl (fun W B => text_at W B _ (by decide)) (fun W B => zero_at W B) (fun W B => dig_at W B 1 0 ⟨by decide, by decide⟩ ⟨by decide, by decide⟩) 27)
  have HQ6 := Keep.mk (up (up hb11 hb12) (al1 w12 (.cells ((cells6 4 0 0 ⟨#[97]⟩ none 0 0 none 0 0) ++ ((cells6 0 0 0 ⟨#[]⟩ none 0 0 none 0 0) ++ (cells6 3 1 0 ⟨#[]⟩ none 0 0 none 0 0))).toArray 27)))
  clear hb11 hb12
  go_wp2_with fail
  refine (law_text _ _).mono ?_
  rintro r w13 ⟨rfl, hb13⟩
  replace HR3 := Keep.mk (HR3.out.up hb13)
  replace HQ6 := Keep.mk (up HQ6.out hb13)
  clear hb13
  go_wp2_with fail
  refine (wk_op4 _ _ _ (HG.out _ (up HB.out HQ6.out)) HR3.out).mono ?_
  rintro r w14 ⟨cs, hr, hj, hb14⟩
  obtain ⟨A4, c4, B4, d4, rfl, _⟩ := JAt.open (show JAt w14 w14.heap.size (.mk 4 0 0 ⟨#[97, 45, 45, 49]⟩ [] []) cs from hj.jat)
  have hr : r = .returned (.tuple #[.agg #[.int .i64 4, .int .i64 0, .int .i64 0, .string ⟨#[97, 45, 45, 49]⟩, .slice A4 0 c4, .slice B4 0 d4], .int .i64 0]) := hr
  subst hr
  have HQ := Keep.mk (up HQ6.out hb14)
  clear hj hb14 HR3 HQ6
  go_upto_region 5 with fail
  refine wp_world (fun W => Below V3.heap.size V3 W ∧ Box W w14.heap.size (cells6 4 0 0 ⟨#[97, 45, 45, 49]⟩ A4 0 c4 B4 0 d4)) ⟨up HQ.out (al1 _ _), Box.new (cells6 4 0 0 ⟨#[97, 45, 45, 49]⟩ A4 0 c4 B4 0 d4) _ rfl⟩ ?_
  rintro V4 ⟨hq, HX4⟩
  replace HX4 := Keep.mk HX4
  replace HX3 := Keep.mk (HX3.out.below hq HX3.out.lt)
  replace HX2 := Keep.mk (HX2.out.below hq HX2.out.lt)
  replace HV2 := Keep.mk (HV2.out.up hq)
  replace HX1 := Keep.mk (HX1.out.below hq HX1.out.lt)
  replace HV1 := Keep.mk (HV1.out.up hq)
  replace HB := Keep.mk (up HB.out hq)
  clear hq HQ
  go_wp2_with fail
  refine (law_digit _ _).mono ?_
  rintro r w15 ⟨rfl, hb15⟩
  go_wp2_with fail
  refine (law_text _ _).mono ?_
  rintro r w16 ⟨rfl, hb16⟩
  go_wp2_with fail
  refine (wk_op5 w16 (HG.out _ (up HB.out (up hb15 hb16)))).mono ?_
  rintro r w17 ⟨cs, hr, hj, hb17⟩
  obtain ⟨A5, c5, B5, d5, rfl, _⟩ := JAt.open (show JAt w17 w17.heap.size (.mk 0 0 0 ⟨#[]⟩ [] []) cs from hj.jat)
  have hr : r = .returned (.tuple #[.agg #[.int .i64 0, .int .i64 0, .int .i64 0, .string ⟨#[]⟩, .slice A5 0 c5, .slice B5 0 d5], .int .i64 80]) := hr
  subst hr
  have HQ := Keep.mk (up (up hb15 hb16) hb17)
  clear hj hb15 hb16 hb17
  go_upto_region 6 with fail
  refine wp_world (fun W => Below V4.heap.size V4 W) (up HQ.out (al1 _ _)) ?_
  rintro V5 hq
  replace HX4 := Keep.mk (HX4.out.below hq HX4.out.lt)
  replace HX3 := Keep.mk (HX3.out.below hq HX3.out.lt)
  replace HX2 := Keep.mk (HX2.out.below hq HX2.out.lt)
  replace HV2 := Keep.mk (HV2.out.up hq)
  replace HX1 := Keep.mk (HX1.out.below hq HX1.out.lt)
  replace HV1 := Keep.mk (HV1.out.up hq)
  replace HB := Keep.mk (up HB.out hq)
  clear hq HQ HG HM
  have p4 := HX1.out.cell 4 _ rfl
  have pl := HX1.out.lt
  have q4 := HX2.out.cell 4 _ rfl
  have ql := HX2.out.lt
  have s1 := HX3.out.cell 1 _ rfl
  have sl := HX3.out.lt
  have t3 := HX4.out.cell 3 _ rfl
  have tl := HX4.out.lt
  obtain ⟨g1, o1, k1, m1, e1, b1, F1, n1, f1, F2, n2, f2, rfl, hg1, hJ1, _, _, _, u3, _⟩ := HV1.out.elem 1 (by decide)
  obtain ⟨g2, o2, k2, m2, e2, b2, F3, n3, f3, F4, n4, f4, rfl, hg2, hJ2, _, v1, _⟩ := HV2.out.elem 0 (by decide)
  obtain ⟨_, _, _, hs1⟩ := hJ1.parts
  obtain ⟨_, hm2, _⟩ := hJ2.parts
  obtain rfl : (⟨#[98]⟩ : ByteArray) = b1 := hs1
  obtain rfl : (2 : Int) = m2 := hm2
  clear hJ1 hJ2 HX1 HX2 HX3 HX4 HV1 HV2
  go_wp2
  go_ret
  exact ⟨rfl, HB.out⟩
end Go.Proofs.YtmacgdcmgbkfnaaGreatDoor
namespace Go.Proofs.YtmacgdcmgbkfnaaGreatDoor
open Go Go.RowKit Go.Proofs Th
attribute [local go_sem] Above.cell
def RowS (w : World) (g : Nat) (cs : Array Value) : Prop := w.heap[g]? = some (.cells cs 9 (0, 0))
theorem RowS.cell {w : World} {g : Nat} {cs : Array Value} (h : RowS w g cs) (i : Nat) (v : Value) (hv : cs[i]? = some v) : w.cell? ⟨g, i, none⟩ = some v := by
  unfold World.cell?
  simp only [show w.heap[g]? = _ from h, hv]
  rfl
theorem RowS.froz {w : World} {g : Nat} {cs : Array Value} (h : RowS w g cs) (i : Nat) : w.frozen? ⟨g, i, none⟩ = false := by
  unfold World.frozen?
  simp only [show w.heap[g]? = _ from h]
  simp
theorem RowS.lt {w : World} {g : Nat} {cs : Array Value} (h : RowS w g cs) : g < w.heap.size := by
  rcases Nat.lt_or_ge g w.heap.size with h1 | h1
  · exact h1
  · have := Array.getElem?_eq_none h1
    rw [show w.heap[g]? = _ from h] at this
    cases this
theorem RowS.below {w w' : World} {g : Nat} {cs : Array Value} (h : RowS w g cs) (hb : Below w.heap.size w w') : RowS w' g cs := (hb.block g h.lt).trans h
theorem charsK_step (k : Nat) (s : ByteArray) : charsK (k + 2) s = s.extract 0 (Lib.decodeGo s).2 :: charsK (k + 1) (s.extract (Lib.decodeGo s).2 s.size) := rfl
theorem str_info9 : (Tryz.prog.info? 9).map (fun i => (i.zero, i.size, i.bytes)) = some (some (.string ByteArray.empty), 1, 16) := by kernel_rfl
set_option maxRecDepth 100000 in
set_option maxHeartbeats 8000000 in
theorem explode_any (s : ByteArray) (w : World) (hs : s.size ≤ 100000) (hG : GlobV w) :
    Calls Tryz.prog 120 #[.string s, .int .i64 (-1)] w fun r w' => ∃ g, r = .returned (.slice (some ⟨g, 0, none⟩) (Lib.runeCount s) (Lib.runeCount s)) ∧ w.heap.size ≤ g ∧ RowS w' g ((charsK (Lib.runeCount s) s).map Value.string).toArray ∧ Below w.heap.size w w' := by
  have hN := Lib.runeCount_le s
  have hR := Keep.mk (Tryz.utf8_RuneCountInString s w (by omega))
  have HG := Keep.mk (fun W (hb : Below w.heap.size w W) => hG.below hb)
  obtain ⟨N, hNN⟩ : ∃ N, Lib.runeCount s = N := ⟨_, rfl⟩
  rw [hNN] at hN hR ⊢
  clear hNN hG
  have hmk := run_make_row' (P := Tryz.prog) 25 9 (.string ByteArray.empty) 16 Tryz.underlying25 str_info9 rfl .i64 .i64 N (by omega) (by omega)
  go_enter Tryz.func120, Tryz.ntmps120
  go_wp2_with fail
  refine hR.out.mono ?_
  rintro r w1 ⟨rfl, pos, hw1⟩
  have hb1 : Below w.heap.size w w1 := by rw [hw1]; exact below_iter w s pos
  replace hb1 := Keep.mk hb1
  clear hw1 hR
  go_upto_region 5 with fail
  rw [← Lib.cellsOf_nil]
  refine wp_world (fun W => RowS W w1.heap.size (Lib.cellsOf [] N) ∧ Below w.heap.size w W) ⟨heap_alloc_new w1 _, up hb1.out (al1 _ _)⟩ ?_
  clear hmk
  have hg1 := hb1.out.size
  obtain ⟨g, hg⟩ : ∃ g, w1.heap.size = g := ⟨_, rfl⟩
  rw [hg] at hg1 ⊢
  clear hg hb1
  rintro W2 ⟨HR, HB⟩
  replace HR := Keep.mk HR
  replace HB := Keep.mk HB
  go_wp2_with fail
  go_loopg [0, 7] (N - 1) (fun gk s0 s7 wr => ∃ (done : List ByteArray) (R : ByteArray), s0 = .string R ∧ s7 = .int .i64 done.length ∧ done.length + gk = N - 1 ∧ R.size ≤ 100000 ∧ Keep (done ++ charsK (N - done.length) R = charsK N s) ∧ Keep (RowS wr g (Lib.cellsOf done N)) ∧ Keep (Below w.heap.size w wr))
  case atStart => exact ⟨[], s, rfl, rfl, by simp, hs, ⟨by simp⟩, HR, HB⟩
  case round =>
    clear HR HB
    obtain ⟨done, R, rfl, rfl, hdg, hRs, HC, HR, HB⟩ := hrel
    cases gk with
    | zero =>
      by_cases h0 : N = 0
      · subst h0
        obtain rfl : done = [] := List.length_eq_zero_iff.1 (by omega)
        go_wp2
        go_ret
        exact ⟨g, rfl, hg1, HR.out, HB.out⟩
      · have hidx : (N : Int) - 1 = ((done.length : Nat) : Int) := by omega
        have hcell := HR.out.cell done.length _ (Lib.cellsOf_next (by omega))
        have hfz := HR.out.froz done.length
        have hgl := HR.out.lt
        have hE := Keep.mk (show done ++ [R] = charsK N s by have h := HC.out; rw [show N - done.length = 1 by omega] at h; exact h)
        have hdN : done.length < N := by omega
        have HR2 := Keep.mk (show RowS (wr.setCell ⟨g, done.length, none⟩ (.string R)) g (Lib.cellsOf (done ++ [R]) N) by
          have h := heap_setCell_same wr g done.length _ _ (.string R) HR.out
          rw [Lib.cellsOf_set hdN] at h
          exact h)
        have hz : (0 : Int) < (N : Int) := by omega
        have HB2 := Keep.mk (HB.out.trans (below_set (w := wr) (B := w.heap.size) (g := g) (o := done.length) hg1 (.string R)))
        clear HC HR HB
        have hl2 : Keep ((charsK N s).length = N) := ⟨charsK_len N s⟩
        go_wp2
        go_ret
        refine ⟨g, rfl, hg1, ?_, HB2.out⟩
        have h := HR2.out
        rw [hE.out] at h
        have h2 := Lib.cellsOf_full (charsK N s)
        rw [hl2.out] at h2
        rw [h2] at h
        exact h
    | succ gk =>
      have hlt : ((done.length : Nat) : Int) < (N : Int) - 1 := by omega
      have hdN : done.length < N := by omega
      have HD := Keep.mk (Tryz.utf8_DecodeRuneInString R wr (HG.out wr HB.out).utf)
      have hdl := Lib.decodeGo_le_size R
      obtain ⟨kk, hkk⟩ : ∃ kk, N - done.length = kk + 2 := ⟨N - done.length - 2, by omega⟩
      have hE := Keep.mk (show (done ++ [R.extract 0 (Lib.decodeGo R).2]) ++ charsK (N - (done ++ [R.extract 0 (Lib.decodeGo R).2]).length) (R.extract (Lib.decodeGo R).2 R.size) = charsK N s by
        have h := HC.out
        rw [hkk, charsK_step] at h
        rw [List.length_append, List.length_singleton, show N - (done.length + 1) = kk + 1 by omega, List.append_assoc]
        exact h)
      obtain ⟨⟨d1, d2⟩, hdg2⟩ : ∃ d, Lib.decodeGo R = d := ⟨_, rfl⟩
      rw [hdg2] at HD hdl hE
      clear hdg2 hkk HC
      simp only at hdl
      go_wp2_with fail
      refine HD.out.mono ?_
      rintro r w4 ⟨rfl, hb4⟩
      have HR4 := Keep.mk (HR.out.below hb4)
      have HB4 := Keep.mk (up HB.out hb4)
      clear hb4 HR HB HD
      have hcell := HR4.out.cell done.length _ (Lib.cellsOf_next hdN)
      have hfz := HR4.out.froz done.length
      have hgl := HR4.out.lt
      have HR2 := Keep.mk (show RowS (w4.setCell ⟨g, done.length, none⟩ (.string (R.extract 0 d2))) g (Lib.cellsOf (done ++ [R.extract 0 d2]) N) by
        have h := heap_setCell_same w4 g done.length _ _ (.string (R.extract 0 d2)) HR4.out
        rw [Lib.cellsOf_set hdN] at h
        exact h)
      have HB2 := Keep.mk (HB4.out.trans (below_set (w := w4) (B := w.heap.size) (g := g) (o := done.length) hg1 (.string (R.extract 0 d2))))
      have hsz : (R.extract d2 R.size).size ≤ 100000 := by rw [ByteArray.size_extract]; omega
      clear HR4 HB4
      go_wp2
      go_roundg gk
      case measure => omega
      case rel => exact ⟨done ++ [R.extract 0 d2], R.extract d2 R.size, rfl, by simp, by simp; omega, hsz, hE, HR2, HB2⟩
set_option maxRecDepth 100000 in
theorem gensplit_none (s : ByteArray) (w : World) (hs : s.size ≤ 100000) (hG : GlobV w) :
    Calls Tryz.prog 91 #[.string s, .string ⟨#[]⟩, .int .i64 0, .int .i64 (-1)] w fun r w' => ∃ g, r = .returned (.slice (some ⟨g, 0, none⟩) (Lib.runeCount s) (Lib.runeCount s)) ∧ w.heap.size ≤ g ∧ RowS w' g ((charsK (Lib.runeCount s) s).map Value.string).toArray ∧ Below w.heap.size w w' := by
  have HC := Keep.mk (explode_any s w hs hG)
  clear hG
  go_enter Tryz.func91, Tryz.ntmps91
  go_wp2_with fail
  refine HC.out.mono ?_
  rintro r w1 ⟨g, rfl, h1, h2, h3⟩
  go_wp2
  go_ret
  exact ⟨g, rfl, h1, h2, h3⟩
set_option maxRecDepth 100000 in
theorem split_none (s : ByteArray) (w : World) (hs : s.size ≤ 100000) (hG : GlobV w) (hsm : ∀ k ∈ charsK (Lib.runeCount s) s, k.size ≤ 140737488351232) :
    Calls Tryz.prog 59 #[.string s, .string ⟨#[]⟩] w fun r w' => ∃ A c, r = .returned (.slice A (charsK (Lib.runeCount s) s).length c) ∧ StrsAt w' w'.heap.size A c (charsK (Lib.runeCount s) s) ∧ Below w.heap.size w w' := by
  have HC := Keep.mk (gensplit_none s w hs hG)
  have hN := Keep.mk (Lib.runeCount_le s)
  have hln := Keep.mk (charsK_len (Lib.runeCount s) s)
  clear hG
  go_enter Tryz.func59, Tryz.ntmps59
  go_wp2_with fail
  refine HC.out.mono ?_
  rintro r w1 ⟨g, rfl, h1, h2, h3⟩
  go_wp2
  go_ret
  refine ⟨some ⟨g, 0, none⟩, Lib.runeCount s, by rw [hln.out]; rfl, ⟨by rw [hln.out]; exact Nat.le_refl _, by have := hN.out; rw [hln.out]; omega, by have := hN.out; omega, hsm, fun _ => ⟨g, 0, rfl, h2.lt, fun j hj => ?_⟩⟩, h3⟩
  rw [Nat.zero_add]
  exact h2.cell j _ (by rw [List.getElem?_toArray, List.getElem?_map, List.getElem?_eq_getElem hj]; rfl)
theorem rune_pos (s : ByteArray) (h : s.size ≠ 0) : 1 ≤ Lib.runeCount s := by
  unfold Lib.runeCount
  obtain ⟨k, hk⟩ : ∃ k, s.size = k + 1 := ⟨s.size - 1, by omega⟩
  rw [hk, Lib.runeCountFrom, if_pos (by omega)]
  omega
theorem sumB_mem : ∀ (ps : List ByteArray) (p : ByteArray), p ∈ ps → p.size ≤ sumB ps
  | q :: r, p, h => by
    rcases List.mem_cons.1 h with rfl | h
    · show p.size ≤ p.size + sumB r; omega
    · have := sumB_mem r p h
      show p.size ≤ q.size + sumB r; omega
theorem split_any (s b : ByteArray) (w : World) (hs : s.size ≤ 1000) (hb : b.size ≤ 1000) (h0 : s.size ≠ 0) (hG : GlobV w) (hM : GlobM w) :
    ∃ ps, PartsR s b ps ∧ ∀ W, Below w.heap.size w W → Calls Tryz.prog 59 #[.string s, .string b] W fun r W' => ∃ A c, r = .returned (.slice A ps.length c) ∧ StrsAt W' W'.heap.size A c ps ∧ Below W.heap.size W W' := by
  by_cases hb0 : b.size = 0
  · have e : b = ⟨#[]⟩ := ba_none hb0
    subst e
    have hp := parts_none s ⟨#[]⟩ rfl (Lib.runeCount s) (rune_pos s h0) (by have := Lib.runeCount_le s; omega)
    have hsum := hp.sum
    exact ⟨_, hp, fun W hW => split_none s W (by omega) (hG.below hW) (fun k hk => by have := sumB_mem _ k hk; omega)⟩
  · have hp := parts_some s b (by omega)
    have hsum := hp.sum
    exact ⟨_, hp, fun W hW => split_some s b W (by omega) (by omega) (hM.below hW) (Lib.splitB_all b (by omega) 0 _ s rfl) (by have := Lib.countB_le b (by omega) s.size s (Nat.le_refl _); omega) (fun k hk => by have := sumB_mem _ k hk; omega)⟩
end Go.Proofs.YtmacgdcmgbkfnaaGreatDoor
