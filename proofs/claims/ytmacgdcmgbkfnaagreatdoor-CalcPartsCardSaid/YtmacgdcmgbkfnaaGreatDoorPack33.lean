/- Lemmas and contracts for the laws CalcParts, part 33 of 33: LawPartsC. Conditions: those that each lemma names. -/
import Derived.Test.YtmacgdcmgbkfnaaGreatDoorPack32
import Derived.Test.YtmacgdcmgbkfnaaGreatDoorPack8
import Derived.Deep.Cut
namespace Go.Proofs.YtmacgdcmgbkfnaaGreatDoor
open Go Go.RowKit Go.Proofs Th
attribute [local go_sem] Above.cell
set_option maxRecDepth 100000 in
set_option maxHeartbeats 4000000 in
theorem oper_bad_part (a b : JV) (w : World) (cs cs2 : List Value) (hG : GlobW w) (hJ : JAt w w.heap.size a cs) (hJ2 : JAt w w.heap.size b cs2) (er : Int) (hne : (er == 0) = false) (hbl : badL [a, b] = er) :
    Calls Tryz.prog 8 #[.string ⟨#[47]⟩, .agg cs.toArray, .agg cs2.toArray] w fun r w' => OpPost w r w' (zeroJ, er) := by
  obtain ⟨k, m, e, s, A, n, c, A', n', c', rfl⟩ := hJ.inn.cells
  obtain ⟨k2, m2, e2, s2, B, n2, d, B', n2', d', rfl⟩ := hJ2.inn.cells
  have HG := Keep.mk (fun W (hb : Below w.heap.size w W) => hG.below hb)
  have HJ := Keep.mk hJ
  have HJ2 := Keep.mk hJ2
  have HBL := Keep.mk hbl
  have HS := Keep.mk (fun W => calc_sign ⟨#[47]⟩ W)
  rw [show Lib.containsS signsB ⟨#[47]⟩ = true by decide] at HS
  have HT := Keep.mk (OpS.new w k m e s A n c A' n' c' k2 m2 e2 s2 B n2 d B' n2' d' 27 27 27)
  clear hG hJ hJ2 hbl
  show Calls _ _ #[.string ⟨#[47]⟩, .agg #[.int .i64 k, .int .i64 m, .int .i64 e, .string s, .slice A n c, .slice A' n' c'], .agg #[.int .i64 k2, .int .i64 m2, .int .i64 e2, .string s2, .slice B n2 d, .slice B' n2' d']] w _
  go_enter Tryz.func8, Tryz.ntmps8
  go_wp2_with fail
  refine calls_world (fun W => OpS w W (cells6 k m e s A n c A' n' c') (cells6 k2 m2 e2 s2 B n2 d B' n2' d')) HT.out ?_
  clear HT
  rintro W0 HT
  refine (HS.out W0).mono ?_
  rintro r w1 ⟨rfl, hb1⟩
  replace HT := Keep.mk (HT.below hb1)
  clear hb1 HS
  have x0 := HT.out.x.cell 0 _ rfl
  have x1 := HT.out.x.cell 1 _ rfl
  have x2 := HT.out.x.cell 2 _ rfl
  have x3 := HT.out.x.cell 3 _ rfl
  have x4 := HT.out.x.cell 4 _ rfl
  have x5 := HT.out.x.cell 5 _ rfl
  have xl := HT.out.x.lt
  have y0 := HT.out.y.cell 0 _ rfl
  have y1 := HT.out.y.cell 1 _ rfl
  have y2 := HT.out.y.cell 2 _ rfl
  have y3 := HT.out.y.cell 3 _ rfl
  have y4 := HT.out.y.cell 4 _ rfl
  have y5 := HT.out.y.cell 5 _ rfl
  have yl := HT.out.y.lt
  have HV := Keep.mk (two_vals w1 a b k m e s A n c A' n' c' k2 m2 e2 s2 B n2 d B' n2' d' (HJ.out.up HT.out.b) (HJ2.out.up HT.out.b) 27)
  go_wp2_with fail
  refine (calc_right [a, b] _ 2 _ (HG.out _ (up HT.out.b (al1 _ _))).weak HV.out).mono ?_
  rw [HBL.out]
  rintro r w2 ⟨rfl, hb2⟩
  replace HT := Keep.mk (HT.out.below (up (al1 _ _) hb2))
  clear hb2 HBL HV
  clear x0 x1 x2 x3 x4 x5 y0 y1 y2 y3 y4 y5 xl yl
  have r0 := HT.out.r.cell 0 _ rfl
  have f0 := HT.out.r.froz 0
  have r1 := HT.out.r.cell 1 _ rfl
  have f1 := HT.out.r.froz 1
  have r2 := HT.out.r.cell 2 _ rfl
  have f2 := HT.out.r.froz 2
  have r3 := HT.out.r.cell 3 _ rfl
  have f3 := HT.out.r.froz 3
  have r4 := HT.out.r.cell 4 _ rfl
  have f4 := HT.out.r.froz 4
  have r5 := HT.out.r.cell 5 _ rfl
  have f5 := HT.out.r.froz 5
  have rl := HT.out.r.lt
  go_wp2
  refine bodyPost_ret (v := .tuple #[.agg #[.int .i64 0, .int .i64 0, .int .i64 0, .string ⟨#[]⟩, .slice none 0 0, .slice none 0 0], .int .i64 er]) ?_ rfl ⟨_, rfl, zero_in _ _, HT.out.b.trans (six_below w2 (w.heap.size + 2) (.int .i64 0) (.int .i64 0) (.int .i64 0) (.string ⟨#[]⟩) (.slice none 0 0) (.slice none 0 0) (by omega))⟩
  simp [results, Tryz.results8, go_sem, r0, r1, r2, r3, r4, r5]
set_option maxRecDepth 100000 in
theorem part_none (b : ByteArray) (w : World) : Calls Tryz.prog 23 #[.agg #[.int .i64 4, .int .i64 0, .int .i64 0, .string ⟨#[]⟩, .slice none 0 0, .slice none 0 0], .agg #[.int .i64 4, .int .i64 0, .int .i64 0, .string b, .slice none 0 0, .slice none 0 0]] w fun r w' =>
      ∃ cs', r = .returned (.tuple #[.agg (List.toArray cs'), .int .i64 0]) ∧ JAt w' w'.heap.size (listV (([] : List ByteArray).map textV)) cs' ∧ Below w.heap.size w w' := by
  go_enter Tryz.func23, Tryz.ntmps23
  go_upto_region 1 with fail
  refine wp_world (fun W => OpS w W (cells6 4 0 0 ⟨#[]⟩ none 0 0 none 0 0) (cells6 4 0 0 b none 0 0 none 0 0)) (OpS.new w 4 0 0 ⟨#[]⟩ none 0 0 none 0 0 4 0 0 b none 0 0 none 0 0 27 27 27) ?_
  rintro W0 HT
  replace HT := Keep.mk HT
  have x0 := HT.out.x.cell 0 _ rfl
  have x3 := HT.out.x.cell 3 _ rfl
  have xl := HT.out.x.lt
  have y0 := HT.out.y.cell 0 _ rfl
  have yl := HT.out.y.lt
  go_wp2_with fail
  refine (calc_list none 0 0 _).mono ?_
  rintro r w2 ⟨rfl, hb2⟩
  have HT2 := Keep.mk (HT.out.below hb2)
  clear hb2 HT x0 x3 xl y0 yl
  have r0 := HT2.out.r.cell 0 _ rfl
  have f0 := HT2.out.r.froz 0
  have r1 := HT2.out.r.cell 1 _ rfl
  have f1 := HT2.out.r.froz 1
  have r2 := HT2.out.r.cell 2 _ rfl
  have f2 := HT2.out.r.froz 2
  have r3 := HT2.out.r.cell 3 _ rfl
  have f3 := HT2.out.r.froz 3
  have r4 := HT2.out.r.cell 4 _ rfl
  have f4 := HT2.out.r.froz 4
  have r5 := HT2.out.r.cell 5 _ rfl
  have f5 := HT2.out.r.froz 5
  have rl := HT2.out.r.lt
  go_wp2
  refine bodyPost_ret (v := .tuple #[.agg #[.int .i64 5, .int .i64 0, .int .i64 0, .string ⟨#[]⟩, .slice none 0 0, .slice none 0 0], .int .i64 0]) ?_ rfl ?_
  · simp [results, Tryz.results23, go_sem, r0, r1, r2, r3, r4, r5]
  · exact ⟨_, rfl, (JIn.shut (l := []) (ks := []) (S := fun _ => False) ⟨by decide, by decide⟩ ⟨by decide, by decide⟩ ⟨by decide, by decide⟩ (by decide) (StrsIn.none_ _ _) (ValsIn.none_ _ _)).at (fun g hg => hg.elim), HT2.out.b.trans (six_below w2 (w.heap.size + 2) (.int .i64 5) (.int .i64 0) (.int .i64 0) (.string ⟨#[]⟩) (.slice none 0 0) (.slice none 0 0) (by omega))⟩
theorem right_two (t : JV) (h : depthJ t ≤ 48) : rightJ t = 0 ∨ rightJ t = 30 := by
  unfold rightJ
  rw [if_neg (by omega)]
  split
  · exact Or.inl rfl
  · exact Or.inr rfl
theorem right_text (s : ByteArray) : rightJ (textV s) = 0 ∨ rightJ (textV s) = 30 := right_two _ (by unfold textV depthJ depthL; omega)
theorem depth_texts : ∀ ps : List ByteArray, depthL (ps.map textV) ≤ 1
  | [] => by simp [depthL]
  | p :: r => by
    have := depth_texts r
    have h1 : depthJ (textV p) = 1 := by unfold textV depthJ depthL; omega
    rw [List.map_cons]
    unfold depthL
    rw [h1]
    omega
theorem right_texts (ps : List ByteArray) : rightJ (listV (ps.map textV)) = 0 ∨ rightJ (listV (ps.map textV)) = 30 := right_two _ (by
  have := depth_texts ps
  unfold listV depthJ; omega)
def PartsE (s b : ByteArray) (ps : List ByteArray) : Prop := (s.size ≠ 0 ∧ PartsR s b ps) ∨ (s = ⟨#[]⟩ ∧ ps = [])
theorem PartsE.len {s b : ByteArray} {ps : List ByteArray} (h : PartsE s b ps) : sumB ps ≤ s.size + b.size ∧ ps.length ≤ s.size + 1 ∧ jsize b (ps.map textV) ≤ s.size + b.size ∧ joinB ((ps.map textV).map jpart) b = s := by
  rcases h with ⟨_, h⟩ | ⟨rfl, rfl⟩
  · have := h.sum
    exact ⟨by omega, h.ln, by rw [jsize_text]; omega, h.back⟩
  · exact ⟨Nat.zero_le _, Nat.zero_le _, Nat.zero_le _, rfl⟩
theorem PartsE.few {s b : ByteArray} {ps : List ByteArray} (h : PartsE s b ps) (hp : 16384 < (printJ (listV (ps.map textV))).length) : 100 < s.size := by
  have h1 := print_parts ps
  rcases h with ⟨_, h⟩ | ⟨rfl, rfl⟩
  · have h2 := h.sum
    have h3 := h.ln
    have h4 : b.size ≤ ps.length * b.size := by
      have : 1 ≤ ps.length := List.length_pos_iff.2 h.ne
      calc b.size = 1 * b.size := (Nat.one_mul _).symm
        _ ≤ ps.length * b.size := Nat.mul_le_mul_right _ this
    omega
  · simp [sumB] at h1
    have : (printJ (listV (([] : List ByteArray).map textV))).length ≤ 2 := by simpa using h1
    omega
theorem bad_two (s b : ByteArray) : badL [textV s, textV b] = 0 ∨ badL [textV s, textV b] = 30 := by
  have e : badL [textV s, textV b] = if rightJ (textV s) ≠ 0 then rightJ (textV s) else if rightJ (textV b) ≠ 0 then rightJ (textV b) else 0 := rfl
  rw [e]
  rcases right_text s with h1 | h1 <;> rcases right_text b with h2 | h2 <;> rw [h1, h2] <;> simp
theorem oper_parts (s b : ByteArray) (w : World) (hs : s.size ≤ 1000) (hb : b.size ≤ 1000) (hG : GlobW w) (hM : GlobM w) : ∃ (t : JV) (er : Int),
    (Calls Tryz.prog 8 #[.string ⟨#[47]⟩, .agg #[.int .i64 4, .int .i64 0, .int .i64 0, .string s, .slice none 0 0, .slice none 0 0], .agg #[.int .i64 4, .int .i64 0, .int .i64 0, .string b, .slice none 0 0, .slice none 0 0]] w fun r w' => OpPost w r w' (t, er)) ∧
    ((t = zeroJ ∧ er = 30) ∨ (t = zeroJ ∧ er = 3 ∧ 100 < s.size) ∨ (er = 0 ∧ rightJ (textV b) = 0 ∧ rightJ t = 0 ∧ rightJ (textV s) = 0 ∧ ∃ ps, PartsE s b ps ∧ t = listV (ps.map textV))) := by
  rcases bad_two s b with h0 | h0
  · obtain ⟨ha, hb2⟩ : rightJ (textV s) = 0 ∧ rightJ (textV b) = 0 := by
      have e : badL [textV s, textV b] = if rightJ (textV s) ≠ 0 then rightJ (textV s) else if rightJ (textV b) ≠ 0 then rightJ (textV b) else 0 := rfl
      rw [e] at h0
      rcases right_text s with h1 | h1 <;> rcases right_text b with h2 | h2 <;> rw [h1, h2] at h0 ⊢ <;> simp at h0 ⊢
    obtain ⟨ps, hp, hc⟩ : ∃ ps, PartsE s b ps ∧ ∀ W, Below w.heap.size w W → Calls Tryz.prog 23 #[.agg (cells6 4 0 0 s none 0 0 none 0 0).toArray, .agg (cells6 4 0 0 b none 0 0 none 0 0).toArray] W fun r w' => ∃ cs', r = .returned (.tuple #[.agg (List.toArray cs'), .int .i64 0]) ∧ JAt w' w'.heap.size (listV (ps.map textV)) cs' ∧ Below W.heap.size W w' := by
      by_cases hz : s.size = 0
      · have e : s = ⟨#[]⟩ := ba_none hz
        subst e
        exact ⟨[], Or.inr ⟨rfl, rfl⟩, fun W _ => part_none b W⟩
      · obtain ⟨ps, hp, hsp⟩ := split_any s b w hs hb hz hG.weak hM
        have h3 := hp.ln
        refine ⟨ps, Or.inl ⟨hz, hp⟩, fun W hW => calc_part s b ps W (by omega) ?_ (fun W2 hW2 => hsp W2 (up hW hW2))⟩
        rw [ba_list, beq_eq_false_iff_ne]
        intro h
        exact hz (by have := congrArg List.length h; exact this)
    obtain ⟨l1, l2, l3, l4⟩ := hp.len
    have hz : sizeJ (listV (ps.map textV)) ≤ 1000000 := by
      have : sizeJ (listV (ps.map textV)) = 1 + sizeL (ps.map textV) := by
        show 1 + (⟨#[]⟩ : ByteArray).size + keysN [] + sizeL (ps.map textV) = _
        rw [show ((⟨#[]⟩ : ByteArray).size) = 0 from rfl, show keysN [] = 0 from rfl]
      rw [this, sizeL_text]; omega
    have h := oper_part (textV s) (textV b) w _ _ hG (text_at w _ s (by omega)) (text_at w _ b (by omega)) ha hb2 (listV (ps.map textV)) 0 (fun _ => hz) hc
    refine ⟨(doneJ (listV (ps.map textV), 0)).1, (doneJ (listV (ps.map textV), 0)).2, h, ?_⟩
    by_cases hr : rightJ (listV (ps.map textV)) = 0
    · by_cases hbig : 16384 < (printJ (listV (ps.map textV))).length
      · have e : doneJ (listV (ps.map textV), 0) = (zeroJ, 3) := by unfold doneJ; rw [if_neg (by simp), if_neg (by simpa using hr), if_pos hbig]
        rw [e]
        exact Or.inr (Or.inl ⟨rfl, rfl, hp.few hbig⟩)
      · have e : doneJ (listV (ps.map textV), 0) = (listV (ps.map textV), 0) := by unfold doneJ; rw [if_neg (by simp), if_neg (by simpa using hr), if_neg hbig]
        rw [e]
        exact Or.inr (Or.inr ⟨rfl, hb2, hr, ha, ps, hp, rfl⟩)
    · have h30 : rightJ (listV (ps.map textV)) = 30 := (right_texts ps).resolve_left hr
      have e : doneJ (listV (ps.map textV), 0) = (zeroJ, 30) := by unfold doneJ; rw [if_neg (by simp), if_pos hr]; show (zeroJ, rightJ (listV (ps.map textV))) = _; rw [h30]
      rw [e]
      exact Or.inl ⟨rfl, rfl⟩
  · exact ⟨zeroJ, 30, oper_bad_part (textV s) (textV b) w _ _ hG (text_at w _ s (by omega)) (text_at w _ b (by omega)) 30 rfl h0, Or.inl ⟨rfl, rfl⟩⟩
set_option maxRecDepth 100000 in
set_option maxHeartbeats 4000000 in
theorem with_join2 (a b : JV) (gap : ByteArray) (w : World) (A : Option Addr) (n c : Nat) (A' : Option Addr) (n' c' : Nat) (hG : GlobW w) (hJ : JAt w w.heap.size a (cells6 5 0 0 ⟨#[]⟩ A n c A' n' c')) (hJ2 : JAt w w.heap.size b (cells6 4 0 0 gap none 0 0 none 0 0)) (ha : rightJ a = 0) (hb : rightJ b = 0) (t : JV) (er : Int) (hz : er = 0 → sizeJ t ≤ 1000000)
    (hc : ∀ W, Below w.heap.size w W → Calls Tryz.prog 31 #[.slice A n c, .string gap] W fun r w' => ∃ cs', r = .returned (.tuple #[.agg (List.toArray cs'), .int .i64 er]) ∧ JAt w' w'.heap.size t cs' ∧ Below W.heap.size W w') :
    Calls Tryz.prog 12 #[.string ⟨#[106, 111, 105, 110]⟩, .agg #[.int .i64 5, .int .i64 0, .int .i64 0, .string ⟨#[]⟩, .slice A n c, .slice A' n' c'], .agg #[.int .i64 4, .int .i64 0, .int .i64 0, .string gap, .slice none 0 0, .slice none 0 0]] w fun r w' => OpPost w r w' (doneJ (t, er)) := by
  have HG := Keep.mk (fun W (hb : Below w.heap.size w W) => hG.below hb)
  have HJ := Keep.mk hJ
  have HJ2 := Keep.mk hJ2
  have HBL := Keep.mk (show badL [a, b] = 0 by show (if rightJ a ≠ 0 then rightJ a else if rightJ b ≠ 0 then rightJ b else 0) = 0; rw [ha, hb]; rfl)
  have HT := Keep.mk (OpS.new w 5 0 0 ⟨#[]⟩ A n c A' n' c' 4 0 0 gap none 0 0 none 0 0 27 27 27)
  have HC := Keep.mk hc
  have HZ := Keep.mk hz
  clear hG hJ hJ2 ha hb hc hz
  go_enter Tryz.func12, Tryz.ntmps12
  go_upto_region 1 with fail
  refine wp_world (fun W => OpS w W (cells6 5 0 0 ⟨#[]⟩ A n c A' n' c') (cells6 4 0 0 gap none 0 0 none 0 0)) HT.out ?_
  clear HT
  rintro w1 HT
  replace HT := Keep.mk HT
  have x0 := HT.out.x.cell 0 _ rfl
  have x1 := HT.out.x.cell 1 _ rfl
  have x2 := HT.out.x.cell 2 _ rfl
  have x3 := HT.out.x.cell 3 _ rfl
  have x4 := HT.out.x.cell 4 _ rfl
  have x5 := HT.out.x.cell 5 _ rfl
  have xl := HT.out.x.lt
  have y0 := HT.out.y.cell 0 _ rfl
  have y1 := HT.out.y.cell 1 _ rfl
  have y2 := HT.out.y.cell 2 _ rfl
  have y3 := HT.out.y.cell 3 _ rfl
  have y4 := HT.out.y.cell 4 _ rfl
  have y5 := HT.out.y.cell 5 _ rfl
  have yl := HT.out.y.lt
  have HV := Keep.mk (two_vals w1 a b 5 0 0 ⟨#[]⟩ A n c A' n' c' 4 0 0 gap none 0 0 none 0 0 (HJ.out.up HT.out.b) (HJ2.out.up HT.out.b) 27)
  go_wp2_with fail
  refine (calc_right [a, b] _ 2 _ (HG.out _ (up HT.out.b (al1 _ _))).weak HV.out).mono ?_
  rw [HBL.out]
  rintro r w2 ⟨rfl, hb2⟩
  replace HT := Keep.mk (HT.out.below (up (al1 _ _) hb2))
  clear hb2 HBL HV HJ HJ2
  clear x0 x1 x2 x3 x4 x5 y0 y1 y2 y3 y4 y5 xl yl
  have x0 := HT.out.x.cell 0 _ rfl
  have x1 := HT.out.x.cell 1 _ rfl
  have x2 := HT.out.x.cell 2 _ rfl
  have x3 := HT.out.x.cell 3 _ rfl
  have x4 := HT.out.x.cell 4 _ rfl
  have x5 := HT.out.x.cell 5 _ rfl
  have xl := HT.out.x.lt
  have y0 := HT.out.y.cell 0 _ rfl
  have y1 := HT.out.y.cell 1 _ rfl
  have y2 := HT.out.y.cell 2 _ rfl
  have y3 := HT.out.y.cell 3 _ rfl
  have y4 := HT.out.y.cell 4 _ rfl
  have y5 := HT.out.y.cell 5 _ rfl
  have yl := HT.out.y.lt
  go_wp2_with fail
  refine (HC.out w2 HT.out.b).mono ?_
  rintro r w3 ⟨cs', hr, hj, hb3⟩
  obtain ⟨k9, m9, e9, s9, A9, n9, c9, A8, n8, c8, rfl⟩ := hj.inn.cells
  have hr : r = .returned (.tuple #[.agg #[.int .i64 k9, .int .i64 m9, .int .i64 e9, .string s9, .slice A9 n9 c9, .slice A8 n8 c8], .int .i64 er]) := hr
  subst hr
  replace HT := Keep.mk (HT.out.below hb3)
  have HD := Keep.mk (calc_done t er HZ.out w3 _ (HG.out w3 HT.out.b) hj)
  clear hb3 hj HG HZ HC
  clear x0 x1 x2 x3 x4 x5 y0 y1 y2 y3 y4 y5 xl yl
  go_wp2_with fail
  refine HD.out.mono ?_
  obtain ⟨e7, he7⟩ : ∃ e7 : Int, (doneJ (t, er)).2 = e7 := ⟨_, rfl⟩
  rw [he7]
  have HE7 := Keep.mk he7
  clear he7 HD
  rintro r w4 ⟨cs', hr, hj, hb4⟩
  obtain ⟨k6, m6, e6, s6, A6, n6, c6, A5, n5, c5, rfl⟩ := hj.cells
  have hr : r = .returned (.tuple #[.agg #[.int .i64 k6, .int .i64 m6, .int .i64 e6, .string s6, .slice A6 n6 c6, .slice A5 n5 c5], .int .i64 e7]) := hr
  subst hr
  have hr3 := HT.out.r.lt
  have HT4 := Keep.mk (HT.out.below hb4)
  have HW3 := Keep.mk HT.out.b.size
  have HJ4 := Keep.mk hj
  clear hb4 hj HT
  have r0 := HT4.out.r.cell 0 _ rfl
  have f0 := HT4.out.r.froz 0
  have r1 := HT4.out.r.cell 1 _ rfl
  have f1 := HT4.out.r.froz 1
  have r2 := HT4.out.r.cell 2 _ rfl
  have f2 := HT4.out.r.froz 2
  have r3 := HT4.out.r.cell 3 _ rfl
  have f3 := HT4.out.r.froz 3
  have r4 := HT4.out.r.cell 4 _ rfl
  have f4 := HT4.out.r.froz 4
  have r5 := HT4.out.r.cell 5 _ rfl
  have f5 := HT4.out.r.froz 5
  have rl := HT4.out.r.lt
  go_wp2
  refine bodyPost_ret (v := .tuple #[.agg #[.int .i64 k6, .int .i64 m6, .int .i64 e6, .string s6, .slice A6 n6 c6, .slice A5 n5 c5], .int .i64 e7]) ?_ rfl ?_
  · simp [results, Tryz.results12, go_sem, r0, r1, r2, r3, r4, r5]
  · have hsz := six_size w4 (w.heap.size + 2) (.int .i64 k6) (.int .i64 m6) (.int .i64 e6) (.string s6) (.slice A6 n6 c6) (.slice A5 n5 c5)
    refine ⟨_, by rw [HE7.out]; rfl, (six_in (g := w.heap.size + 2) (.int .i64 k6) (.int .i64 m6) (.int .i64 e6) (.string s6) (.slice A6 n6 c6) (.slice A5 n5 c5) HJ4.out (fun h => by have := h.1; omega)).more (fun g hg => ⟨Nat.le_trans HW3.out hg.1, ?_⟩), HT4.out.b.trans (six_below w4 (w.heap.size + 2) (.int .i64 k6) (.int .i64 m6) (.int .i64 e6) (.string s6) (.slice A6 n6 c6) (.slice A5 n5 c5) (by omega))⟩
    show g < (six w4 (w.heap.size + 2) (.int .i64 k6) (.int .i64 m6) (.int .i64 e6) (.string s6) (.slice A6 n6 c6) (.slice A5 n5 c5)).heap.size
    rw [hsz]; exact hg.2
def BoxZ (s : ByteArray) (w : World) (g : Nat) : Prop := Box w g zero6 ∨ ∃ (A5 : Option Addr) (c5 : Nat) (B5 : Option Addr) (d5 : Nat), Box w g (cells6 4 0 0 s A5 0 c5 B5 0 d5)
theorem BoxZ.below {s : ByteArray} {w w' : World} {g : Nat} (h : BoxZ s w g) (hb : Below w.heap.size w w') : BoxZ s w' g := by
  rcases h with h | ⟨A5, c5, B5, d5, h⟩
  · exact Or.inl (h.below hb h.lt)
  · exact Or.inr ⟨A5, c5, B5, d5, h.below hb h.lt⟩
theorem box_six {w : World} {g : Nat} {a0 a1 a2 a3 a4 a5 : Value} (h : Box w g [a0, a1, a2, a3, a4, a5]) (b0 b1 b2 b3 b4 b5 : Value) : Box (six w g b0 b1 b2 b3 b4 b5) g [b0, b1, b2, b3, b4, b5] :=
  (((((h.set (i := 0) (by simp) b0).set (i := 1) (by simp) b1).set (i := 2) (by simp) b2).set (i := 3) (by simp) b3).set (i := 4) (by simp) b4).set (i := 5) (by simp) b5
theorem box_six_other {w : World} {g p : Nat} {cs : List Value} (h : Box w g cs) (hp : p ≠ g) (b0 b1 b2 b3 b4 b5 : Value) : Box (six w p b0 b1 b2 b3 b4 b5) g cs :=
  (((((h.other hp b0).other hp b1).other hp b2).other hp b3).other hp b4).other hp b5
theorem BoxZ.six {s : ByteArray} {w : World} {g : Nat} (h : BoxZ s w g) (p : Nat) (A5 : Option Addr) (c5 : Nat) (B5 : Option Addr) (d5 : Nat) : BoxZ s (Go.Proofs.YtmacgdcmgbkfnaaGreatDoor.six w p (.int .i64 4) (.int .i64 0) (.int .i64 0) (.string s) (.slice A5 0 c5) (.slice B5 0 d5)) g := by
  by_cases e : p = g
  · subst e
    rcases h with h | ⟨_, _, _, _, h⟩
    · exact Or.inr ⟨A5, c5, B5, d5, box_six h _ _ _ _ _ _⟩
    · exact Or.inr ⟨A5, c5, B5, d5, box_six h _ _ _ _ _ _⟩
  · rcases h with h | ⟨a, b, c, d, h⟩
    · exact Or.inl (box_six_other h e _ _ _ _ _ _)
    · exact Or.inr ⟨a, b, c, d, box_six_other h e _ _ _ _ _ _⟩
theorem parts_back (s b : ByteArray) (ps : List ByteArray) (w : World) (A : Option Addr) (n c : Nat) (A' : Option Addr) (n' c' : Nat) (hs : s.size ≤ 1000) (hb : b.size ≤ 1000) (hp : PartsE s b ps) (hn : (ps.map textV).length = n) (hG : GlobW w)
    (hJ : JAt w w.heap.size (listV (ps.map textV)) (cells6 5 0 0 ⟨#[]⟩ A n c A' n' c')) (hV : ValsAt w w.heap.size A c (ps.map textV)) (hrt : rightJ (listV (ps.map textV)) = 0) (hrb : rightJ (textV b) = 0) (hrs : rightJ (textV s) = 0) :
    Calls Tryz.prog 12 #[.string ⟨#[106, 111, 105, 110]⟩, .agg #[.int .i64 5, .int .i64 0, .int .i64 0, .string ⟨#[]⟩, .slice A n c, .slice A' n' c'], .agg #[.int .i64 4, .int .i64 0, .int .i64 0, .string b, .slice none 0 0, .slice none 0 0]] w fun r w' => ∃ A5 c5 B5 d5, r = .returned (.tuple #[.agg #[.int .i64 4, .int .i64 0, .int .i64 0, .string s, .slice A5 0 c5, .slice B5 0 d5], .int .i64 0]) ∧ Below w.heap.size w w' := by
  subst hn
  obtain ⟨l1, l2, l3, l4⟩ := hp.len
  have hkk : ∀ j (h : j < (ps.map textV).length), (ps.map textV)[j].k ≠ 5 ∧ (ps.map textV)[j].k ≠ 6 := fun j h => by
    rw [List.getElem_map]
    exact (show (4 : Int) ≠ 5 ∧ (4 : Int) ≠ 6 by decide)
  have hjn : (Lib.join (((ps.map textV).map jpart).map (·.data.toList)) b.data.toList).length ≤ 1000 := by
    have e : (joinB ((ps.map textV).map jpart) b).size = (Lib.join (((ps.map textV).map jpart).map (·.data.toList)) b.data.toList).length := by unfold joinB; rw [ByteArray.size]; simp
    rw [← e, l4]; exact hs
  have hsz : sizeJ (textV s) = 1 + s.size := sz_text s
  have h := with_join2 (listV (ps.map textV)) (textV b) b w A (ps.map textV).length c A' n' c' hG hJ (text_at w _ b (by omega)) hrt hrb (textV s) 0 (fun _ => by rw [hsz]; omega)
    (fun W hW => by
      have h := calc_join (ps.map textV) b A c W (by rw [List.length_map]; omega) hkk (by rw [sizeL_text]; omega) (by omega) (by omega) (hG.below hW) (hV.up hW) (by omega)
      rw [l4] at h
      exact h)
  have hpl : ¬ 16384 < (printJ (textV s)).length := by
    have h1 := quoteD_le s.data.toList
    have h2 : s.data.toList.length = s.size := rfl
    unfold printJ
    rw [if_pos hrs]
    have e : textJ textN (textV s) = quoteD s.data.toList := by unfold textV textJ; simp
    rw [e]; omega
  have e : doneJ (textV s, 0) = (textV s, 0) := by unfold doneJ; rw [if_neg (by simp), if_neg (by simpa using hrs), if_neg hpl]
  rw [e] at h
  refine h.mono ?_
  rintro r w' ⟨cs', hr, hj, hb'⟩
  obtain ⟨A5, c5, B5, d5, rfl, _⟩ := JAt.open (show JAt w' w'.heap.size (.mk 4 0 0 s [] []) cs' from hj.jat)
  exact ⟨A5, c5, B5, d5, hr, hb'⟩
set_option maxRecDepth 100000 in
set_option maxHeartbeats 8000000 in
theorem law_parts (s b : ByteArray) (w : World) (hs0 : s.size ≤ 140737488351232) (hb0 : b.size ≤ 140737488351232) (hG : GlobW w) (hM : GlobM w) :
    Calls Tryz.prog 4 #[.string s, .string b] w fun r w' => r = .returned (.bool true) ∧ Below w.heap.size w w' := by
  have HG := Keep.mk (fun W (hb : Below w.heap.size w W) => hG.below hb)
  have HM := Keep.mk (fun W (hb : Below w.heap.size w W) => hM.below hb)
  clear hG hM
  go_enter Tryz.func4, Tryz.ntmps4
  go_wp2_with fail
  refine (law12_works w (HG.out w (Below.refl _ _)) (HM.out w (Below.refl _ _))).mono ?_
  rintro r w1 ⟨rfl, hb1⟩
  have HB := Keep.mk hb1
  clear hb1
  by_cases hs : 1000 < s.size
  case pos =>
    go_wp2
    go_ret
    exact ⟨rfl, HB.out⟩
  by_cases hb : 1000 < b.size
  case pos =>
    go_wp2
    go_ret
    exact ⟨rfl, HB.out⟩
  go_wp2_with fail
  refine (law_text _ _).mono ?_
  rintro r w2 ⟨rfl, hb2⟩
  go_wp2_with fail
  refine (law_text _ _).mono ?_
  rintro r w3 ⟨rfl, hb3⟩
  replace HB := Keep.mk (up (up HB.out hb2) hb3)
  clear hb2 hb3
  obtain ⟨t, er, hO, hcase⟩ := oper_parts s b w3 (by omega) (by omega) (HG.out _ HB.out) (HM.out _ HB.out)
  replace hO := Keep.mk hO
  replace hcase := Keep.mk hcase
  go_wp2_with fail
  refine hO.out.mono ?_
  rintro r w4 ⟨cs', hr, hj, hb4⟩
  replace HB := Keep.mk (up HB.out hb4)
  replace hj := Keep.mk hj
  clear hb4 hO
  rcases hcase.out with ⟨rfl, rfl⟩ | ⟨rfl, rfl, h100⟩ | ⟨rfl, hrb, hrt, hrs, ps, hps, rfl⟩
  · clear hcase
    obtain ⟨k6, m6, e6, s6, A6, n6, c6, A5, n5, c5, rfl⟩ := hj.out.cells
    have hr : r = .returned (.tuple #[.agg #[.int .i64 k6, .int .i64 m6, .int .i64 e6, .string s6, .slice A6 n6 c6, .slice A5 n5 c5], .int .i64 30]) := hr
    subst hr
    have HSM := Keep.mk (ref3_Same _ zeroJ zeroJ (Nat.le_refl _) (w4.alloc (.cells #[.int .i64 k6, .int .i64 m6, .int .i64 e6, .string s6, .slice A6 n6 c6, .slice A5 n5 c5] 27)) _ _ (hj.out.jat.up (al1 _ _)) (zero_at _ _))
    clear hj
    go_wp2_with fail
    refine HSM.out.mono ?_
    rw [show sameJ zeroJ zeroJ = true from by decide]
    rintro r w5 ⟨rfl, hb5⟩
    go_wp2
    go_ret
    exact ⟨rfl, up (up HB.out (al1 _ _)) hb5⟩
  · clear hcase
    obtain ⟨k6, m6, e6, s6, A6, n6, c6, A5, n5, c5, rfl⟩ := hj.out.cells
    have hr : r = .returned (.tuple #[.agg #[.int .i64 k6, .int .i64 m6, .int .i64 e6, .string s6, .slice A6 n6 c6, .slice A5 n5 c5], .int .i64 3]) := hr
    subst hr
    clear hj
    go_wp2
    go_ret
    have h1 : (100 : Int) < s.size := by omega
    exact ⟨by simp [h1], up HB.out (al1 _ _)⟩
  clear hcase
  obtain ⟨A, c, A', c', rfl, _, _, _, _, _, hV⟩ := JAt.open (show JAt w4 w4.heap.size (.mk 5 0 0 ⟨#[]⟩ (ps.map textV) []) cs' from hj.out.jat)
  have HV := Keep.mk hV
  have HJL := Keep.mk (show JAt w4 w4.heap.size (listV (ps.map textV)) (cells6 5 0 0 ⟨#[]⟩ A (ps.map textV).length c A' 0 c') from hj.out.jat)
  have HPS := Keep.mk hps
  have HRT := Keep.mk hrt
  have HRB := Keep.mk hrb
  have HRS := Keep.mk hrs
  have hr : r = .returned (.tuple #[.agg #[.int .i64 5, .int .i64 0, .int .i64 0, .string ⟨#[]⟩, .slice A (ps.map textV).length c, .slice A' 0 c'], .int .i64 0]) := hr
  obtain ⟨n', hn'⟩ : ∃ n' : Nat, 0 = n' := ⟨_, rfl⟩
  obtain ⟨n, hn⟩ : ∃ n : Nat, (ps.map textV).length = n := ⟨_, rfl⟩
  rw [hn'] at hr HJL
  rw [hn] at hr HJL
  have HN := Keep.mk hn
  subst hr
  clear hn hn' hj hV hrt hrb hrs hps
  go_upto_region 10 with fail
  refine wp_world (fun W => Below w.heap.size w W ∧ Box W w4.heap.size (cells6 5 0 0 ⟨#[]⟩ A n c A' n' c') ∧ JAt W W.heap.size (listV (ps.map textV)) (cells6 5 0 0 ⟨#[]⟩ A n c A' n' c') ∧ ValsAt W W.heap.size A c (ps.map textV)) ⟨up HB.out (al1 _ _), Box.new (cells6 5 0 0 ⟨#[]⟩ A n c A' n' c') _ rfl, HJL.out.up (al1 _ _), HV.out.up (al1 _ _)⟩ ?_
  clear HB HJL HV
  rintro W5 ⟨HB, HX, HJL, HV⟩
  replace HB := Keep.mk HB
  replace HX := Keep.mk HX
  have HW := Keep.mk (fun W (hW : Below W5.heap.size W5 W) => parts_back s b ps W A n c A' n' c' (by omega) (by omega) HPS.out HN.out (HG.out W (up HB.out hW)) (HJL.up hW) (HV.up hW) HRT.out HRB.out HRS.out)
  clear HJL HV HRT HRB HRS
  go_wp2_with fail
  refine wp_region_everyP (σ := fun _ => 7) (fun _ w' => Below W5.heap.size W5 w') (fun
    | 0 => fun x _ => x = .agg #[.int .i64 5, .int .i64 0, .int .i64 0, .string ⟨#[]⟩, .slice A n c, .slice A' n' c']
    | 1 => fun x _ => x = .string b
    | 2 => fun x _ => x = .agg #[.int .i64 4, .int .i64 0, .int .i64 0, .string b, .slice none 0 0, .slice none 0 0]
    | 3 => fun x _ => ∃ (A5 : Option Addr) (c5 : Nat) (B5 : Option Addr) (d5 : Nat), x = .tuple #[.agg #[.int .i64 4, .int .i64 0, .int .i64 0, .string s, .slice A5 0 c5, .slice B5 0 d5], .int .i64 0]
    | 4 => fun x _ => ∃ (A5 : Option Addr) (c5 : Nat) (B5 : Option Addr) (d5 : Nat), x = .tuple #[.agg #[.int .i64 4, .int .i64 0, .int .i64 0, .string s, .slice A5 0 c5, .slice B5 0 d5], .int .i64 0]
    | 5 => fun x _ => ∃ (A5 : Option Addr) (c5 : Nat) (B5 : Option Addr) (d5 : Nat), x = .agg #[.int .i64 4, .int .i64 0, .int .i64 0, .string s, .slice A5 0 c5, .slice B5 0 d5]
    | 6 => fun x _ => x = .int .i64 0
    | 7 => fun x w' => ∃ g, x = .pointer (some ⟨g, 0, none⟩) ∧ W5.heap.size ≤ g ∧ BoxZ s w' g
    | 8 => fun x w' => ∃ g, x = .pointer (some ⟨g, 0, none⟩) ∧ W5.heap.size ≤ g ∧ ∃ (A5 : Option Addr) (c5 : Nat) (B5 : Option Addr) (d5 : Nat), Box w' g (cells6 4 0 0 s A5 0 c5 B5 0 d5)
    | 9 => fun x _ => x = .int .i64 0
    | _ => fun _ _ => True) (fun
    | 8 => fun w1 w2 => ∃ (g : Nat), ∃ (A5 : Option Addr) (c5 : Nat) (B5 : Option Addr) (d5 : Nat), W5.heap.size ≤ g ∧ g < w1.heap.size ∧ w2 = six w1 g (.int .i64 4) (.int .i64 0) (.int .i64 0) (.string s) (.slice A5 0 c5) (.slice B5 0 d5)
    | _ => fun w1 w2 => Below w1.heap.size w1 w2) (by kernel_rfl) (by kernel_rfl) (by kernel_rfl) (below_drawn W5) ?_ ?_ ?_
  · intro i j x w1 w2 hij hG
    by_cases h8 : i = 8
    · subst h8
      obtain ⟨g8, A5, c5, B5, d5, hg8, hlt8, rfl⟩ := hG
      match j with
      | 0 | 1 | 2 | 3 | 4 | 5 | 6 | 9 => exact fun h => h
      | 7 => rintro ⟨g, h1, h2, h3⟩; exact ⟨g, h1, h2, h3.six _ _ _ _ _⟩
      | 8 => exact absurd rfl hij
      | _ + 10 => exact fun h => h
    · have hG : Below w1.heap.size w1 w2 := by
        match i, h8 with
        | 0, _ | 1, _ | 2, _ | 3, _ | 4, _ | 5, _ | 6, _ | 7, _ | 9, _ => exact hG
        | 8, h => exact absurd rfl h
        | _ + 10, _ => exact hG
      match j with
      | 0 | 1 | 2 | 3 | 4 | 5 | 6 | 9 => exact fun h => h
      | 7 => rintro ⟨g, h1, h2, h3⟩; exact ⟨g, h1, h2, h3.below hG⟩
      | 8 => rintro ⟨g, h1, h2, A5, c5, B5, d5, h3⟩; exact ⟨g, h1, h2, A5, c5, B5, d5, h3.below hG h3.lt⟩
      | _ + 10 => exact fun h => h
  · simp only [stepHoldP]
    refine ⟨?_, ?_, ?_, ?_, ?_, ?_, ?_, ?_, ?_, ?_, trivial⟩
    · intro _ a wa _ hI hs _
      have q1 : a.eval (.tmp 5) = .pointer (some ⟨w4.heap.size, 0, none⟩) := hs 5 (by kernel_rfl)
      have HX1 := HX.out.below hI HX.out.lt
      have x0 := HX1.cell 0 _ rfl
      have x1 := HX1.cell 1 _ rfl
      have x2 := HX1.cell 2 _ rfl
      have x3 := HX1.cell 3 _ rfl
      have x4 := HX1.cell 4 _ rfl
      have x5 := HX1.cell 5 _ rfl
      have xl := HX1.lt
      exact op_val _ (w' := wa) (by unfold execOp; simp only [q1]; go_simp) ⟨_, rfl, rfl, hI, Below.refl _ _⟩
    · intro _ a wa _ hI hs _
      have q1 : a.eval (.tmp 1) = .string b := hs 1 (by kernel_rfl)
      exact op_val _ (w' := wa) (by unfold execOp; simp only [q1]; go_simp) ⟨_, rfl, rfl, hI, Below.refl _ _⟩
    · intro _ a wa _ hI _ hd
      have q1 : a.eval (.tmp 43) = .string b := hd.1
      have f1 := get_form q1
      refine op_call 11 #[.string b] (by unfold execOp; go_simp) ((law_text b wa).mono ?_)
      rintro r w9 ⟨rfl, hb1⟩
      exact ⟨_, rfl, _, rfl, rfl, up hI hb1, hb1⟩
    · intro _ a wa _ hI _ hd
      have q1 : a.eval (.tmp 42) = .agg #[.int .i64 5, .int .i64 0, .int .i64 0, .string ⟨#[]⟩, .slice A n c, .slice A' n' c'] := hd.1
      have q2 : a.eval (.tmp 44) = .agg #[.int .i64 4, .int .i64 0, .int .i64 0, .string b, .slice none 0 0, .slice none 0 0] := hd.2.1
      have f1 := get_form q1
      have f2 := get_form q2
      refine op_call 12 #[.string ⟨#[106, 111, 105, 110]⟩, .agg #[.int .i64 5, .int .i64 0, .int .i64 0, .string ⟨#[]⟩, .slice A n c, .slice A' n' c'], .agg #[.int .i64 4, .int .i64 0, .int .i64 0, .string b, .slice none 0 0, .slice none 0 0]] (by unfold execOp; go_simp) ((HW.out wa hI).mono ?_)
      rintro r w9 ⟨A5, c5, B5, d5, rfl, hb1⟩
      exact ⟨_, rfl, _, rfl, ⟨A5, c5, B5, d5, rfl⟩, up hI hb1, hb1⟩
    · intro _ a wa _ hI _ hd
      obtain ⟨A5, c5, B5, d5, q1⟩ := hd.1
      have q1 : a.eval (.tmp 45) = .tuple #[.agg #[.int .i64 4, .int .i64 0, .int .i64 0, .string s, .slice A5 0 c5, .slice B5 0 d5], .int .i64 0] := q1
      exact op_val _ (w' := wa) (by unfold execOp; simp only [q1]; go_simp) ⟨_, rfl, ⟨A5, c5, B5, d5, rfl⟩, hI, Below.refl _ _⟩
    · intro _ a wa _ hI _ hd
      obtain ⟨A5, c5, B5, d5, q1⟩ := hd.1
      have q1 : a.eval (.tmp 41) = .tuple #[.agg #[.int .i64 4, .int .i64 0, .int .i64 0, .string s, .slice A5 0 c5, .slice B5 0 d5], .int .i64 0] := q1
      exact op_val _ (w' := wa) (by unfold execOp; simp only [q1]; go_simp) ⟨_, rfl, ⟨A5, c5, B5, d5, rfl⟩, hI, Below.refl _ _⟩
    · intro _ a wa _ hI _ hd
      obtain ⟨A5, c5, B5, d5, q1⟩ := hd.1
      have q1 : a.eval (.tmp 41) = .tuple #[.agg #[.int .i64 4, .int .i64 0, .int .i64 0, .string s, .slice A5 0 c5, .slice B5 0 d5], .int .i64 0] := q1
      exact op_val _ (w' := wa) (by unfold execOp; simp only [q1]; go_simp) ⟨_, rfl, rfl, hI, Below.refl _ _⟩
    · intro _ a wa _ hI _ _
      exact op_val _ (w' := wa.alloc (.cells zero6.toArray 27)) (by unfold execOp; go_simp; rfl) ⟨_, rfl, ⟨wa.heap.size, rfl, hI.size, Or.inl (Box.new zero6 _ rfl)⟩, up hI (al1 _ _), al1 _ _⟩
    · intro _ a wa _ hI _ hd
      obtain ⟨g, q1, hg, hz⟩ := hd.1
      have q1 : a.eval (.tmp 7) = .pointer (some ⟨g, 0, none⟩) := q1
      obtain ⟨A5, c5, B5, d5, q2⟩ := hd.2.1
      have q2 : a.eval (.tmp 46) = .agg #[.int .i64 4, .int .i64 0, .int .i64 0, .string s, .slice A5 0 c5, .slice B5 0 d5] := q2
      rcases hz with hz | ⟨_, _, _, _, hz⟩
      · have z0 := hz.cell 0 _ rfl
        have z1 := hz.cell 1 _ rfl
        have z2 := hz.cell 2 _ rfl
        have z3 := hz.cell 3 _ rfl
        have z4 := hz.cell 4 _ rfl
        have z5 := hz.cell 5 _ rfl
        have f0 := hz.froz 0
        have f1 := hz.froz 1
        have f2 := hz.froz 2
        have f3 := hz.froz 3
        have f4 := hz.froz 4
        have f5 := hz.froz 5
        have zl := hz.lt
        exact op_skip (w' := six wa g (.int .i64 4) (.int .i64 0) (.int .i64 0) (.string s) (.slice A5 0 c5) (.slice B5 0 d5)) (by unfold execOp; simp only [q1, q2]; go_simp; rfl) ⟨undef, rfl, ⟨g, q1, hg, A5, c5, B5, d5, box_six hz _ _ _ _ _ _⟩, hI.trans (six_below wa g _ _ _ _ _ _ hg), ⟨g, A5, c5, B5, d5, hg, hz.lt, rfl⟩⟩
      · have z0 := hz.cell 0 _ rfl
        have z1 := hz.cell 1 _ rfl
        have z2 := hz.cell 2 _ rfl
        have z3 := hz.cell 3 _ rfl
        have z4 := hz.cell 4 _ rfl
        have z5 := hz.cell 5 _ rfl
        have f0 := hz.froz 0
        have f1 := hz.froz 1
        have f2 := hz.froz 2
        have f3 := hz.froz 3
        have f4 := hz.froz 4
        have f5 := hz.froz 5
        have zl := hz.lt
        exact op_skip (w' := six wa g (.int .i64 4) (.int .i64 0) (.int .i64 0) (.string s) (.slice A5 0 c5) (.slice B5 0 d5)) (by unfold execOp; simp only [q1, q2]; go_simp; rfl) ⟨undef, rfl, ⟨g, q1, hg, A5, c5, B5, d5, box_six hz _ _ _ _ _ _⟩, hI.trans (six_below wa g _ _ _ _ _ _ hg), ⟨g, A5, c5, B5, d5, hg, hz.lt, rfl⟩⟩
    · intro _ a wa _ hI _ hd
      have q1 : a.eval (.tmp 47) = .int .i64 0 := hd.1
      exact op_val _ (w' := wa) (by unfold execOp; simp only [q1]; go_simp) ⟨_, rfl, rfl, hI, Below.refl _ _⟩
  · intro vs _ W7 _ hB7 hall
    replace hB7 := Keep.mk hB7
    simp only [allHoldP] at hall
    obtain ⟨h0, h1, h2, h3, h4, h5, h6, h7, h8, h9, _⟩ := hall
    rw [putL_slot (k := 7) (by simp) (by kernel_rfl)] at h8
    clear h7
    simp only [putL]
    generalize vs 0 = v0 at *
    generalize vs 1 = v1 at *
    generalize vs 2 = v2 at *
    generalize vs 3 = v3 at *
    generalize vs 4 = v4 at *
    generalize vs 5 = v5 at *
    generalize vs 6 = v6 at *
    generalize vs 7 = v7 at *
    generalize vs 8 = v8 at *
    generalize vs 9 = v9 at *
    obtain ⟨g, rfl, hg7, A5, c5, B5, d5, hY⟩ := h8
    obtain ⟨A3, c3, B3, d3, rfl⟩ := h3
    obtain ⟨A6, c6, B6, d6, rfl⟩ := h4
    obtain ⟨A7, c7, B7, d7, rfl⟩ := h5
    subst h0 h1 h2 h6 h9
    have HY := Keep.mk hY
    have HB7 := hB7
    clear hY HW HG HM
    have HX7 := Keep.mk (HX.out.below HB7.out HX.out.lt)
    have y0 := HY.out.cell 0 _ rfl
    have y3 := HY.out.cell 3 _ rfl
    have yl := HY.out.lt
    have x4 := HX7.out.cell 4 _ rfl
    have xl := HX7.out.lt
    rcases HPS.out with ⟨h0, _⟩ | ⟨rfl, rfl⟩
    · have hse : (s.toList == ([] : List UInt8)) = false := by
        rw [ba_list, beq_eq_false_iff_ne]
        intro h
        exact h0 (by have := congrArg List.length h; exact this)
      clear HPS
      go_wp2
      go_ret
      exact ⟨rfl, up HB.out HB7.out⟩
    · obtain rfl : 0 = n := HN.out
      clear HPS
      go_wp2
      go_ret
      exact ⟨rfl, up HB.out HB7.out⟩
end Go.Proofs.YtmacgdcmgbkfnaaGreatDoor
