/- Lemmas and contracts for the laws CalcLengths, part 36 of 37: AddW. Conditions: those that each lemma names. -/
import Derived.Test.YtnkokhpadcgfbaaGreatDoorPack35
import Derived.Test.YtnkokhpadcgfbaaGreatDoorPack23
import Derived.Test.YtnkokhpadcgfbaaGreatDoorPack30
import Derived.Test.YtnkokhpadcgfbaaGreatDoorPack31
import Derived.Test.YtnkokhpadcgfbaaGreatDoorPack33
import Derived.Test.YtnkokhpadcgfbaaGreatDoorPack29
import Derived.Test.YtnkokhpadcgfbaaGreatDoorPack32
import Derived.Test.YtnkokhpadcgfbaaGreatDoorPack2
import Derived.Test.YtnkokhpadcgfbaaGreatDoorPack1
import Derived.Test.YtnkokhpadcgfbaaGreatDoorPack4
import Derived.Deep.Cut
import Derived.Scope
import Derived.WalkMore
import Derived.Shelf.Unicode.DecodeLastEight
import Derived.Lib.SplitLaws
namespace Go.Proofs.YtnkokhpadcgfbaaGreatDoor
open Go Go.RowKit Go.Proofs Th
attribute [local go_sem] Above.cell
set_option maxRecDepth 100000 in
set_option maxHeartbeats 4000000 in
theorem add_digits  (m e : Int) (s : ByteArray) (A : Option Addr) (n c : Nat) (A' : Option Addr) (n' c' : Nat)(m2 e2 : Int) (s2 : ByteArray) (A2 : Option Addr) (n2 c2 : Nat) (A2' : Option Addr) (n2' c2' : Nat) (w : World) (hm : I64 m) (hm2 : I64 m2) (hG : Glob w) (m3 e3 er : Int) (he : addN m e m2 e2 = ((m3, e3), er)) (h3 : I64 m3) (h4 : I64 e3) :
    Calls Tryz.prog 24 #[.agg #[.int .i64 3, .int .i64 m, .int .i64 e, .string s, .slice A n c, .slice A' n' c'], .agg #[.int .i64 3, .int .i64 m2, .int .i64 e2, .string s2, .slice A2 n2 c2, .slice A2' n2' c2']] w fun r w' => ∃ cs', r = .returned (.tuple #[.agg (List.toArray cs'), .int .i64 er]) ∧ JAt w' w'.heap.size (digV (m3, e3)) cs' ∧ Below w.heap.size w w' := by
  have HN := Keep.mk (fun W (hb : Below w.heap.size w W) => numbers_add m e s A n c A' n' c' m2 e2 s2 A2 n2 c2 A2' n2' c2' hm hm2 W (hG.below hb))
  rw [he] at HN
  have H3 := Keep.mk h3
  have H4 := Keep.mk h4
  clear hm hm2 hG he h3 h4
  go_enter Tryz.func24, Tryz.ntmps24
  go_upto_region 1 with fail
  refine wp_world (fun W => OpS w W (cells6 3 m e s A n c A' n' c') (cells6 3 m2 e2 s2 A2 n2 c2 A2' n2' c2')) (OpS.new w 3 m e s A n c A' n' c' 3 m2 e2 s2 A2 n2 c2 A2' n2' c2' 27 27 27) ?_
  rintro W0 HT
  replace HT := Keep.mk HT
  have x0 := HT.out.x.cell 0 _ rfl
  have x1 := HT.out.x.cell 1 _ rfl
  have x2 := HT.out.x.cell 2 _ rfl
  have x3 := HT.out.x.cell 3 _ rfl
  have x4 := HT.out.x.cell 4 _ rfl
  have x5 := HT.out.x.cell 5 _ rfl
  have xl := HT.out.x.lt
  have y0 := HT.out.y.cell 0 _ rfl
  have y1 := HT.out.y.cell 1 _ rfl
  have y2 := HT.out.y.cell 2 _ rfl
  have y3 := HT.out.y.cell 3 _ rfl
  have y4 := HT.out.y.cell 4 _ rfl
  have y5 := HT.out.y.cell 5 _ rfl
  have yl := HT.out.y.lt
  go_wp2_with fail
  refine (HN.out W0 HT.out.b).mono ?_
  rintro r w1 ⟨rfl, hb1⟩
  replace HT := Keep.mk (HT.out.below hb1)
  clear hb1 HN
  clear x0 x1 x2 x3 x4 x5 y0 y1 y2 y3 y4 y5 xl yl
  have r0 := HT.out.r.cell 0 _ rfl
  have f0 := HT.out.r.froz 0
  have r1 := HT.out.r.cell 1 _ rfl
  have f1 := HT.out.r.froz 1
  have r2 := HT.out.r.cell 2 _ rfl
  have f2 := HT.out.r.froz 2
  have r3 := HT.out.r.cell 3 _ rfl
  have f3 := HT.out.r.froz 3
  have r4 := HT.out.r.cell 4 _ rfl
  have f4 := HT.out.r.froz 4
  have r5 := HT.out.r.cell 5 _ rfl
  have f5 := HT.out.r.froz 5
  have rl := HT.out.r.lt
  go_wp2
  refine bodyPost_ret (v := .tuple #[.agg #[.int .i64 3, .int .i64 m3, .int .i64 e3, .string ⟨#[]⟩, .slice none 0 0, .slice none 0 0], .int .i64 er]) ?_ rfl ?_
  · simp [results, Tryz.results24, go_sem, r0, r1, r2, r3, r4, r5]
  · exact ⟨_, rfl, dig_at _ _ m3 e3 H3.out H4.out, HT.out.b.trans (six_below w1 (w.heap.size + 2) (.int .i64 3) (.int .i64 m3) (.int .i64 e3) (.string ⟨#[]⟩) (.slice none 0 0) (.slice none 0 0) (by omega))⟩
set_option maxRecDepth 100000 in
set_option maxHeartbeats 4000000 in
theorem oper_bad_add (a b : JV) (w : World) (cs cs2 : List Value) (hG : GlobW w) (hJ : JAt w w.heap.size a cs) (hJ2 : JAt w w.heap.size b cs2) (er : Int) (hne : (er == 0) = false) (hbl : badL [a, b] = er) :
    Calls Tryz.prog 10 #[.string ⟨#[43]⟩, .agg cs.toArray, .agg cs2.toArray] w fun r w' => OpPost w r w' (zeroJ, er) := by
  obtain ⟨k, m, e, s, A, n, c, A', n', c', rfl⟩ := hJ.inn.cells
  obtain ⟨k2, m2, e2, s2, B, n2, d, B', n2', d', rfl⟩ := hJ2.inn.cells
  have HG := Keep.mk (fun W (hb : Below w.heap.size w W) => hG.below hb)
  have HJ := Keep.mk hJ
  have HJ2 := Keep.mk hJ2
  have HBL := Keep.mk hbl
  have HS := Keep.mk (fun W => calc_sign ⟨#[43]⟩ W)
  rw [show Lib.containsS signsB ⟨#[43]⟩ = true by decide] at HS
  have HT := Keep.mk (OpS.new w k m e s A n c A' n' c' k2 m2 e2 s2 B n2 d B' n2' d' 27 27 27)
  clear hG hJ hJ2 hbl
  show Calls _ _ #[.string ⟨#[43]⟩, .agg #[.int .i64 k, .int .i64 m, .int .i64 e, .string s, .slice A n c, .slice A' n' c'], .agg #[.int .i64 k2, .int .i64 m2, .int .i64 e2, .string s2, .slice B n2 d, .slice B' n2' d']] w _
  go_enter Tryz.func10, Tryz.ntmps10
  go_wp2_with fail
  refine calls_world (fun W => OpS w W (cells6 k m e s A n c A' n' c') (cells6 k2 m2 e2 s2 B n2 d B' n2' d')) HT.out ?_
  clear HT
  rintro W0 HT
  refine (HS.out W0).mono ?_
  rintro r w1 ⟨rfl, hb1⟩
  replace HT := Keep.mk (HT.below hb1)
  clear hb1 HS
  have x0 := HT.out.x.cell 0 _ rfl
  have x1 := HT.out.x.cell 1 _ rfl
  have x2 := HT.out.x.cell 2 _ rfl
  have x3 := HT.out.x.cell 3 _ rfl
  have x4 := HT.out.x.cell 4 _ rfl
  have x5 := HT.out.x.cell 5 _ rfl
  have xl := HT.out.x.lt
  have y0 := HT.out.y.cell 0 _ rfl
  have y1 := HT.out.y.cell 1 _ rfl
  have y2 := HT.out.y.cell 2 _ rfl
  have y3 := HT.out.y.cell 3 _ rfl
  have y4 := HT.out.y.cell 4 _ rfl
  have y5 := HT.out.y.cell 5 _ rfl
  have yl := HT.out.y.lt
  have HV := Keep.mk (two_vals w1 a b k m e s A n c A' n' c' k2 m2 e2 s2 B n2 d B' n2' d' (HJ.out.up HT.out.b) (HJ2.out.up HT.out.b) 27)
  go_wp2_with fail
  refine (calc_right [a, b] _ 2 _ (HG.out _ (up HT.out.b (al1 _ _))).weak HV.out).mono ?_
  rw [HBL.out]
  rintro r w2 ⟨rfl, hb2⟩
  replace HT := Keep.mk (HT.out.below (up (al1 _ _) hb2))
  clear hb2 HBL HV
  clear x0 x1 x2 x3 x4 x5 y0 y1 y2 y3 y4 y5 xl yl
  have r0 := HT.out.r.cell 0 _ rfl
  have f0 := HT.out.r.froz 0
  have r1 := HT.out.r.cell 1 _ rfl
  have f1 := HT.out.r.froz 1
  have r2 := HT.out.r.cell 2 _ rfl
  have f2 := HT.out.r.froz 2
  have r3 := HT.out.r.cell 3 _ rfl
  have f3 := HT.out.r.froz 3
  have r4 := HT.out.r.cell 4 _ rfl
  have f4 := HT.out.r.froz 4
  have r5 := HT.out.r.cell 5 _ rfl
  have f5 := HT.out.r.froz 5
  have rl := HT.out.r.lt
  go_wp2
  refine bodyPost_ret (v := .tuple #[.agg #[.int .i64 0, .int .i64 0, .int .i64 0, .string ⟨#[]⟩, .slice none 0 0, .slice none 0 0], .int .i64 er]) ?_ rfl ⟨_, rfl, zero_in _ _, HT.out.b.trans (six_below w2 (w.heap.size + 2) (.int .i64 0) (.int .i64 0) (.int .i64 0) (.string ⟨#[]⟩) (.slice none 0 0) (.slice none 0 0) (by omega))⟩
  simp [results, Tryz.results10, go_sem, r0, r1, r2, r3, r4, r5]
theorem addJ_mk (k m e : Int) (s : ByteArray) (l : List JV) (ks : List ByteArray) (k2 m2 e2 : Int) (s2 : ByteArray) (l2 : List JV) (ks2 : List ByteArray) : addJ (.mk k m e s l ks) (.mk k2 m2 e2 s2 l2 ks2) =
    if k = 0 then (.mk k2 m2 e2 s2 l2 ks2, 0) else if k2 = 0 then (.mk k m e s l ks, 0) else if k = 4 ∧ k2 = 4 then (if 16384 < s.size + s2.size then (zeroJ, 3) else (textV (s ++ s2), 0))
    else if k = 5 ∧ k2 = 5 then (listV (l ++ l2), 0) else if k = 6 ∧ k2 = 6 then makeJ (ks ++ ks2) (l ++ l2) else numsJ addN (.mk k m e s l ks) (.mk k2 m2 e2 s2 l2 ks2) := rfl
theorem oper_plus (a b : JV) (w : World) (cs cs2 : List Value) (hG : GlobW w) (hJ : JAt w w.heap.size a cs) (hJ2 : JAt w w.heap.size b cs2) (hz : sizeJ a + sizeJ b ≤ 10000)
    (hk : a.k = 0 ∨ b.k = 0 ∨ (a.k = 4 ∧ b.k = 4) ∨ (a.k = 5 ∧ b.k = 5) ∨ (a.k = 3 ∧ b.k = 3 ∧ I64 a.m ∧ I64 b.m ∧ I64 (addN a.m a.e b.m b.e).1.1 ∧ I64 (addN a.m a.e b.m b.e).1.2)) :
    Calls Tryz.prog 10 #[.string ⟨#[43]⟩, .agg cs.toArray, .agg cs2.toArray] w fun r w' => OpPost w r w' (plusJ a b) := by
  unfold plusJ
  by_cases hbl : badL [a, b] ≠ 0
  · rw [if_pos hbl]
    exact oper_bad_add a b w cs cs2 hG hJ hJ2 _ (by simpa using hbl) rfl
  rw [if_neg hbl]
  obtain ⟨ha, hb⟩ : rightJ a = 0 ∧ rightJ b = 0 := by
    rw [badL_two] at hbl
    by_cases ha : rightJ a ≠ 0
    · rw [if_pos ha] at hbl; exact absurd ha hbl
    · rw [if_neg ha] at hbl
      by_cases hb : rightJ b ≠ 0
      · rw [if_pos hb] at hbl; exact absurd hb hbl
      · exact ⟨by omega, by omega⟩
  obtain ⟨k, m, e, s, l, ks⟩ := a
  obtain ⟨k2, m2, e2, s2, l2, ks2⟩ := b
  have hza : 1 + s.size + keysN ks + sizeL l + (1 + s2.size + keysN ks2 + sizeL l2) ≤ 10000 := hz
  obtain ⟨A1, c1, B1, d1, rfl, _, _, _, _, hS1, hV1⟩ := JAt.open hJ
  obtain ⟨A2, c2, B2, d2, rfl, _, _, _, _, hS2, hV2⟩ := JAt.open hJ2
  by_cases h0 : k = 0
  · subst h0
    rw [show addJ (.mk 0 m e s l ks) (.mk k2 m2 e2 s2 l2 ks2) = (.mk k2 m2 e2 s2 l2 ks2, 0) by rw [addJ_mk, if_pos rfl]]
    refine oper_add _ _ w _ _ hG hJ hJ2 ha hb _ _ (fun _ => by show 1 + s2.size + keysN ks2 + sizeL l2 ≤ 1000000; omega) fun W hW => ?_
    exact add_null_left _ k2 m e s _ _ _ _ _ _ m2 e2 s2 _ _ _ _ _ _ W (hJ2.up hW)
  by_cases h02 : k2 = 0
  · subst h02
    rw [show addJ (.mk k m e s l ks) (.mk 0 m2 e2 s2 l2 ks2) = (.mk k m e s l ks, 0) by rw [addJ_mk, if_neg h0, if_pos rfl]]
    refine oper_add _ _ w _ _ hG hJ hJ2 ha hb _ _ (fun _ => by show 1 + s.size + keysN ks + sizeL l ≤ 1000000; omega) fun W hW => ?_
    exact add_null_right _ k m e s _ _ _ _ _ _ m2 e2 s2 _ _ _ _ _ _ W h0 (hJ.up hW)
  rcases hk with hk | hk | ⟨hk, hk2⟩ | ⟨hk, hk2⟩ | ⟨hk, hk2, i1, i2, i3, i4⟩
  · exact absurd hk h0
  · exact absurd hk h02
  · obtain rfl : k = 4 := hk
    obtain rfl : k2 = 4 := hk2
    rw [show addJ (.mk 4 m e s l ks) (.mk 4 m2 e2 s2 l2 ks2) = (textV (s ++ s2), 0) by
      rw [addJ_mk, if_neg h0, if_neg h02, if_pos ⟨rfl, rfl⟩, if_neg (by show ¬ 16384 < s.size + s2.size; omega)]]
    refine oper_add _ _ w _ _ hG hJ hJ2 ha hb _ _ (fun _ => by show 1 + (s ++ s2).size + 0 + 0 ≤ 1000000; rw [ByteArray.size_append]; omega) fun W _ => ?_
    exact add_texts m e s _ _ _ _ _ _ m2 e2 s2 _ _ _ _ _ _ W (by omega)
  · obtain rfl : k = 5 := hk
    obtain rfl : k2 = 5 := hk2
    have n1 := sizeL_len l
    have n2 := sizeL_len l2
    rw [show addJ (.mk 5 m e s l ks) (.mk 5 m2 e2 s2 l2 ks2) = (listV (l ++ l2), 0) from add_list rfl rfl]
    refine oper_add _ _ w _ _ hG hJ hJ2 ha hb _ _ (fun _ => by show 1 + 0 + 0 + sizeL (l ++ l2) ≤ 1000000; rw [sizeL_app]; omega) fun W hW => ?_
    exact add_lists l l2 m e s _ _ _ _ _ _ m2 e2 s2 _ _ _ _ _ _ W rfl rfl (by omega) (hV1.up hW) (hV2.up hW)
  · obtain rfl : k = 3 := hk
    obtain rfl : k2 = 3 := hk2
    rw [show addJ (.mk 3 m e s l ks) (.mk 3 m2 e2 s2 l2 ks2) = (digV ((addN m e m2 e2).1.1, (addN m e m2 e2).1.2), (addN m e m2 e2).2) by
      rw [addJ_mk, if_neg h0, if_neg h02, if_neg (by intro h; exact absurd h.1 (by show ¬ (3 : Int) = 4; decide)), if_neg (by intro h; exact absurd h.1 (by show ¬ (3 : Int) = 5; decide)), if_neg (by intro h; exact absurd h.1 (by show ¬ (3 : Int) = 6; decide))]
      unfold numsJ
      rw [if_neg (by intro h; rcases h with h | h <;> exact h rfl)]
      rfl]
    refine oper_add _ _ w _ _ hG hJ hJ2 ha hb _ _ (fun _ => by show 1 + 0 + 0 + 0 ≤ 1000000; omega) fun W hW => ?_
    exact add_digits m e s _ _ _ _ _ _ m2 e2 s2 _ _ _ _ _ _ W i1 i2 (hG.below hW).num.weak _ _ _ rfl i3 i4
theorem plain_len (a : JV) (w : World) (cs : List Value) (hG : GlobW w) (hJ : JAt w w.heap.size a cs) (ha : rightJ a = 0) (hz : sizeJ a ≤ 10000) (hk : a.k = 4 ∨ a.k = 5) :
    Calls Tryz.prog 14 #[.string ⟨#[108, 101, 110, 103, 116, 104]⟩, .agg cs.toArray] w fun r w' => OpPost w r w' (digV (wholeN (lenN a)), 0) := by
  obtain ⟨k, m, e, s, l, ks⟩ := a
  have hza : 1 + s.size + keysN ks + sizeL l ≤ 10000 := hz
  obtain ⟨A1, c1, B1, d1, rfl, _, _, _, _, hS1, hV1⟩ := JAt.open hJ
  have hrn := Lib.runeCount_le s
  have hln := sizeL_len l
  have hlt : lenN (.mk k m e s l ks) < 1000000000000000000 := by
    unfold lenN
    split
    · show Lib.runeCount s < _; omega
    · show l.length < _; omega
  rw [← done_whole _ hlt]
  refine plain_length _ w _ hG hJ ha _ _ (fun _ => by show 1 + 0 + 0 + 0 ≤ 1000000; omega) fun W hW => ?_
  rcases hk with hk | hk
  · obtain rfl : k = 4 := hk
    exact length_text m e s _ _ _ _ _ _ (by omega) W
  · obtain rfl : k = 5 := hk
    exact length_list m e s _ _ _ _ _ _ (by omega) W
end Go.Proofs.YtnkokhpadcgfbaaGreatDoor
