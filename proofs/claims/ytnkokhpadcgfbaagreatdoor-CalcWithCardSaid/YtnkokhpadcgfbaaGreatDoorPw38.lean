/- Lemmas and contracts for the laws CalcWith, part 38 of 50: PartV. Conditions: those that each lemma names. -/
import Derived.Test.YtnkokhpadcgfbaaGreatDoorPw36
namespace Go.Proofs.YtnkokhpadcgfbaaGreatDoor
open Go Go.RowKit Go.Proofs Th
attribute [local go_sem] Above.cell
theorem list_own {W : World} {A : Option Addr} {n c base : Nat} {l : List JV} {S T : Nat → Prop} (h : OwnV W base S (.slice A n c) l) (hl : l.length ≤ 140737488351232) (hT : ∀ g, S g → T g) (ho : ∀ k, base ≤ k → k < W.heap.size → T k) :
    JIn W T (listV l) (cells6 5 0 0 ⟨#[]⟩ A l.length c none 0 0) := by
  obtain ⟨e, hV⟩ := h.vals hl hT (fun k hk => ho k (h.lt k hk).1 (h.lt k hk).2)
  exact JIn.shut (ks := []) ⟨by decide, by decide⟩ ⟨by decide, by decide⟩ ⟨by decide, by decide⟩ (by decide) (StrsIn.none_ _ _) hV
theorem text_in (W : World) (S : Nat → Prop) (s : ByteArray) (hs : s.size ≤ 140737488351232) : JIn W S (textV s) (cells6 4 0 0 s none 0 0 none 0 0) :=
  JIn.shut (l := []) (ks := []) ⟨by decide, by decide⟩ ⟨by decide, by decide⟩ ⟨by decide, by decide⟩ hs (StrsIn.none_ _ _) (ValsIn.none_ _ _)
theorem map_step (ps : List ByteArray) (j : Nat) (h : j < ps.length) : (ps.take (j + 1)).map textV = (ps.take j).map textV ++ [textV ps[j]] := by
  rw [List.take_succ_eq_append_getElem h, List.map_append]; rfl
set_option maxRecDepth 100000 in
set_option maxHeartbeats 4000000 in
theorem calc_part (s b : ByteArray) (ps : List ByteArray) (w : World) (hl : ps.length ≤ 1000000) (h0 : (s.toList == ([] : List UInt8)) = false)
    (hsp : ∀ W, Below w.heap.size w W → Calls Tryz.prog 75 #[.string s, .string b] W fun r W' => ∃ A c, r = .returned (.slice A ps.length c) ∧ StrsAt W' W'.heap.size A c ps ∧ Below W.heap.size W W') :
    Calls Tryz.prog 28 #[.agg #[.int .i64 4, .int .i64 0, .int .i64 0, .string s, .slice none 0 0, .slice none 0 0], .agg #[.int .i64 4, .int .i64 0, .int .i64 0, .string b, .slice none 0 0, .slice none 0 0]] w fun r w' =>
      ∃ cs', r = .returned (.tuple #[.agg (List.toArray cs'), .int .i64 0]) ∧ JAt w' w'.heap.size (listV (ps.map textV)) cs' ∧ Below w.heap.size w w' := by
  have HSP := Keep.mk hsp
  clear hsp
  go_enter Tryz.func28, Tryz.ntmps28
  go_upto_region 1 with fail
  refine wp_world (fun W => OpS w W (cells6 4 0 0 s none 0 0 none 0 0) (cells6 4 0 0 b none 0 0 none 0 0)) (OpS.new w 4 0 0 s none 0 0 none 0 0 4 0 0 b none 0 0 none 0 0 27 27 27) ?_
  rintro W0 HT
  replace HT := Keep.mk HT
  have x0 := HT.out.x.cell 0 _ rfl
  have x3 := HT.out.x.cell 3 _ rfl
  have xl := HT.out.x.lt
  have y0 := HT.out.y.cell 0 _ rfl
  have y3 := HT.out.y.cell 3 _ rfl
  have yl := HT.out.y.lt
  go_wp2_with fail
  refine (HSP.out W0 HT.out.b).mono ?_
  rintro r W1 ⟨A, c, rfl, hK, hb1⟩
  replace HT := Keep.mk (HT.out.below hb1)
  replace hK := Keep.mk hK
  have hkc := hK.out.cap
  have hkl := hK.out.le
  have hW1 := HT.out.r.lt
  clear hb1 x0 x3 xl y0 y3 yl HSP
  go_wp2_with fail
  go_loopg [6, 31] ps.length (fun gk v6 i wr => ∃ j : Nat, j + gk = ps.length ∧ i = .int .i64 j ∧ Keep (Below W1.heap.size W1 wr) ∧ Keep (OwnV wr W1.heap.size (fun _ => False) v6 ((ps.take j).map textV)))
  case atStart => exact ⟨0, by omega, rfl, ⟨Below.refl _ _⟩, ⟨by rw [List.take_zero]; exact OwnV.nil _ _ _⟩⟩
  case round =>
    obtain ⟨j, hj, rfl, HB, HO⟩ := hrel
    have hbs := HB.out.size
    by_cases hlt : j < ps.length
    · have hgk : gk ≠ 0 := by omega
      obtain ⟨g, o, rfl, hg, hc⟩ := (hK.out.below HB.out (Nat.le_refl _)).at_ (by omega)
      have hcj := hc j hlt
      have hg2 : g < wr.heap.size := by omega
      have HSM := Keep.mk (hK.out.small ps[j] (List.getElem_mem hlt))
      have HE := Keep.mk (map_step ps j hlt)
      generalize ps[j] = q at *
      clear hc
      go_wp2_with fail
      refine (calc_text q _).mono ?_
      rintro e w1 ⟨rfl, hb1⟩
      have HB2 := Keep.mk (up hb1 (al1 w1 (.cells #[.int .i64 4, .int .i64 0, .int .i64 0, .string q, .slice none 0 0, .slice none 0 0] 27)))
      have HO2 := Keep.mk (HO.out.carry HB2.out (fun g hg => hg.elim))
      have HX2 := Keep.mk (show Box (w1.alloc (.cells #[.int .i64 4, .int .i64 0, .int .i64 0, .string q, .slice none 0 0, .slice none 0 0] 27)) w1.heap.size (cells6 4 0 0 q none 0 0 none 0 0) from Box.new (cells6 4 0 0 q none 0 0 none 0 0) _ rfl)
      have hw1 := hb1.size
      clear hb1 hcj
      go_wp2_with (at_builtin; refine wpList_app_vals rfl (.tmp 35) (.tmp 38) rfl W1.heap.size (fun _ => False) _ _ rfl HO2.out w1.heap.size _ _ rfl HX2.out.cell (text_in _ _ q HSM.out) ?_ ?_ ?_ ?_ ?_)
      · rw [List.length_map, List.length_take]; omega
      · simp; omega
      · intro b hb h; exact h
      · intro b h; exact h.elim
      · intro v7 w7 hO7 hg7 hv7
        have HB7 := Keep.mk (HB.out.trans ((HB2.out.mono hbs).trans (grown_below hg7 (by simp; omega) (fun b hb => (HO2.out.lt b hb).1))))
        have HO7 := Keep.mk hO7
        clear hO7 hg7 hv7
        go_wp2
        go_roundg (gk - 1)
        case rel => exact ⟨j + 1, by omega, by go_num, HB7, ⟨by rw [HE.out, List.map_take]; exact HO7.out⟩⟩
        case measure => omega
    · obtain rfl : j = ps.length := by omega
      have hO := HO.out
      rw [List.take_length] at hO
      obtain ⟨A7, c7, rfl, _, _⟩ := hO.form
      have HO7 := Keep.mk hO
      have HT7 := Keep.mk (HT.out.below HB.out)
      clear hO HO HT
      go_wp2_with fail
      refine (calc_list A7 _ c7 _).mono ?_
      rintro r w2 ⟨rfl, hb2⟩
      have HT2 := Keep.mk (HT7.out.below hb2)
      have HO8 := Keep.mk (HO7.out.carry hb2 (fun g hg => hg.elim))
      have HL := Keep.mk (list_own (T := fun g => W1.heap.size ≤ g ∧ g < w2.heap.size) HO8.out (by rw [List.length_map]; omega) (fun g hg => hg.elim) (fun k h1 h2 => ⟨h1, h2⟩))
      rw [List.length_map] at HL
      clear hb2 HT7 HO7 HO8
      have r0 := HT2.out.r.cell 0 _ rfl
      have f0 := HT2.out.r.froz 0
      have r1 := HT2.out.r.cell 1 _ rfl
      have f1 := HT2.out.r.froz 1
      have r2 := HT2.out.r.cell 2 _ rfl
      have f2 := HT2.out.r.froz 2
      have r3 := HT2.out.r.cell 3 _ rfl
      have f3 := HT2.out.r.froz 3
      have r4 := HT2.out.r.cell 4 _ rfl
      have f4 := HT2.out.r.froz 4
      have r5 := HT2.out.r.cell 5 _ rfl
      have f5 := HT2.out.r.froz 5
      have rl := HT2.out.r.lt
      go_wp2
      refine bodyPost_ret (v := .tuple #[.agg #[.int .i64 5, .int .i64 0, .int .i64 0, .string ⟨#[]⟩, .slice A7 ps.length c7, .slice none 0 0], .int .i64 0]) ?_ rfl ?_
      · simp [results, Tryz.results28, go_sem, r0, r1, r2, r3, r4, r5]
      · refine ⟨_, rfl, ?_, HT2.out.b.trans (six_below w2 (w.heap.size + 2) (.int .i64 5) (.int .i64 0) (.int .i64 0) (.string ⟨#[]⟩) (.slice A7 ps.length c7) (.slice none 0 0) (by omega))⟩
        have h6 := six_in (g := w.heap.size + 2) (.int .i64 5) (.int .i64 0) (.int .i64 0) (.string ⟨#[]⟩) (.slice A7 ps.length c7) (.slice none 0 0) HL.out (fun h => by have := h.1; omega)
        have hsz := six_size w2 (w.heap.size + 2) (.int .i64 5) (.int .i64 0) (.int .i64 0) (.string ⟨#[]⟩) (.slice A7 ps.length c7) (.slice none 0 0)
        exact h6.at (fun g hg => by show g < (six w2 (w.heap.size + 2) (.int .i64 5) (.int .i64 0) (.int .i64 0) (.string ⟨#[]⟩) (.slice A7 ps.length c7) (.slice none 0 0)).heap.size; rw [hsz]; exact hg.2)
end Go.Proofs.YtnkokhpadcgfbaaGreatDoor
