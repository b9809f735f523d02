/- Lemmas and contracts for the laws ReadParses, ReadBytes, part 38 of 50: ReadP3. Conditions: those that each lemma names. -/
import Derived.Test.YtbngjlkmpdccjaaGreatDoorPack36
import Derived.Outline
namespace Go.Proofs.YtbngjlkmpdccjaaGreatDoor
open Go Go.RowKit Go.Proofs Th
attribute [local go_sem] Above.cell
set_option maxRecDepth 100000 in
set_option maxHeartbeats 8000000 in
theorem parse_pass3 (s : ByteArray) (hs : s.size ≤ 100000000) (w : World) (RV : JV × Nat × Int) : ∀ n a W, JP s RV w n 3 a W → (tailP 3).wp Tryz.prog (outP s RV w n) a W := by
  have HL := Keep.mk (show s.data.toList.length = s.size from Array.length_toList ..)
  rintro n a W ⟨hF, st, v, t, rs, sv, cs, H⟩
  refine pass_of (l := 3) rfl ?_
  · 
    obtain ⟨u1, u3, u4, u7, u8, u9, u10, u11, u12, u13, u14, u15, u16, u17, u18, u19, u20, u21, u22, u23, u24, u25, u26, u27, u28, u29, u30, u31, u32, u33, u34, u35, u36, u37, u38, u39, u40, u41, u42, u43, u44, u45, u46, u47, u48, u49, u50, u51, u52, u53, u54, u55, u56, u57, u58, u59, u60, u61, u62, u63, u64, u65, u66, u67, u68, u69, u70, u71, u72, u73, u74, u75, u76, u77, u78, u79, u80, u81, u82, u83, u84, u85, u86, u87, u88, u89, u90, u91, u92, u93, u94, u95, u96, u97, u98, u99, u100, u101, u102, u103, u104, u105, u106, u107, u108, u109, u110, u111, u112, u113, u114, u115, u116, u117, u118, u119, u120, u121, u122, u123, u124, u125, u126, u127, u128, u129, u130, u131, u132, u133, u134, u135, u136, u137, u138, u139, u140, u141, u142, u143, u144, u145, u146, u147, u148, u149, u150, u151, u152, u153, u154, u155, u156, u157, u158, u159, u160, u161, u162, u163, u164, u165, u166, u167, u168, u169, u170, u171, u172, u173, u174, u175, u176, u177, u178, u179, u180, u181, u182, u183, u184, u185, u186, u187, u188, u189, u190, u191, u192, u193, u194, u195, u196, u197, u198, u199, u200, u201, u202, u203, u204, u205, u206, u207, u208, u209, u210, u211, u212, u213, u214, u215, u216, u217, u218, u219, u220, u221, u222, u223, u224, u225, u226, u227, u228, u229, u230, u231, u232, u233, u234, u235, u236, u237, u238, u239, u240, u241, u242, u243, u244, u245, u246, u247, u248, u249⟩ := hF
    obtain ⟨k9, m9, e9, s9, A9, n9, c9, A8, n8, c8, rfl⟩ := H.six
    have HT := Keep.mk H.tokF
    obtain ⟨sg, k, m, x, ts, ta, tt, te⟩ := t
    have HPS := Keep.mk H.ps
    replace H := Keep.mk H
    have r0 := HPS.out.v.box.cell 0 _ rfl
    have r1 := HPS.out.v.box.cell 1 _ rfl
    have r2 := HPS.out.v.box.cell 2 _ rfl
    have r3 := HPS.out.v.box.cell 3 _ rfl
    have r4 := HPS.out.v.box.cell 4 _ rfl
    have r5 := HPS.out.v.box.cell 5 _ rfl
    have z0 := HPS.out.v.box.froz 0
    have z1 := HPS.out.v.box.froz 1
    have z2 := HPS.out.v.box.froz 2
    have z3 := HPS.out.v.box.froz 3
    have z4 := HPS.out.v.box.froz 4
    have z5 := HPS.out.v.box.froz 5
    have hsz := HPS.out.size
    have y0 : W.cell? ⟨w.heap.size + 2, 0, none⟩ = some (.int .u8 sg) := HPS.out.tb.cell 0 _ rfl
    have y1 : W.cell? ⟨w.heap.size + 2, 1, none⟩ = some (.int .i64 k) := HPS.out.tb.cell 1 _ rfl
    have y2 : W.cell? ⟨w.heap.size + 2, 2, none⟩ = some (.int .i64 m) := HPS.out.tb.cell 2 _ rfl
    have y3 : W.cell? ⟨w.heap.size + 2, 3, none⟩ = some (.int .i64 x) := HPS.out.tb.cell 3 _ rfl
    have y4 : W.cell? ⟨w.heap.size + 2, 4, none⟩ = some (.string ts) := HPS.out.tb.cell 4 _ rfl
    have y5 : W.cell? ⟨w.heap.size + 2, 5, none⟩ = some (.slice none 0 0) := HPS.out.tb.cell 5 _ rfl
    have y6 : W.cell? ⟨w.heap.size + 2, 6, none⟩ = some (.slice none 0 0) := HPS.out.tb.cell 6 _ rfl
    have y7 : W.cell? ⟨w.heap.size + 2, 7, none⟩ = some (.int .i64 ta) := HPS.out.tb.cell 7 _ rfl
    have y8 : W.cell? ⟨w.heap.size + 2, 8, none⟩ = some (.int .i64 tt) := HPS.out.tb.cell 8 _ rfl
    have y9 : W.cell? ⟨w.heap.size + 2, 9, none⟩ = some (.int .i64 te) := HPS.out.tb.cell 9 _ rfl
    have q0 := HPS.out.tb.froz 0
    have q1 := HPS.out.tb.froz 1
    have q2 := HPS.out.tb.froz 2
    have q3 := HPS.out.tb.froz 3
    have q4 := HPS.out.tb.froz 4
    have q5 := HPS.out.tb.froz 5
    have q6 := HPS.out.tb.froz 6
    have q7 := HPS.out.tb.froz 7
    have q8 := HPS.out.tb.froz 8
    have q9 := HPS.out.tb.froz 9
    obtain ⟨f, rfl⟩ := fuel_pos H.out.fuel
    by_cases he : te = 0
    case neg =>
      have b1 : (te != 0) = true := by simpa using he
      have HE := Keep.mk (H.out.run.symm.trans (key_errS _ _ _ _ _ _ (by simpa using he)))
      clear H he
      go_wp2_with fail
      clear r0 r1 r2 r3 r4 r5 z0 z1 z2 z3 z4 z5 y0 y1 y2 y3 y4 y5 y6 y7 y8 y9 q0 q1 q2 q3 q4 q5 q6 q7 q8 q9 hsz 
      refine wp_region_every (ErrI w ⟨sg, k, m, x, ts, ta, tt, te⟩ (cells6 k9 m9 e9 s9 A9 n9 c9 A8 n8 c8) 5) (fun
        | 0 => fun v _ => v = .agg (List.toArray zero6)
        | 1 => fun v _ => v = .pointer (some ⟨w.heap.size + 2, 7, none⟩)
        | 2 => fun v _ => v = .int .i64 ta
        | 3 => fun v _ => v = .pointer (some ⟨w.heap.size + 2, 9, none⟩)
        | 4 => fun v _ => v = .int .i64 te
        | 5 => fun v _ => True
        | 6 => fun v _ => v = .int .i64 ta
        | 7 => fun v _ => v = .int .i64 te
        | _ => fun _ _ => True) (fun _ _ _ => True) (by kernel_rfl) (by kernel_rfl) (ErrI.new HPS.out) ?_ ?_ ?_
      · intro i j v w1 w2 _ _
        match j with
        | 0 | 1 | 2 | 3 | 4 | 5 | 6 | 7 => exact fun h => h
        | _ + 8 => exact fun h => h
      · simp only [stepHold]
        refine ⟨?_, ?_, ?_, ?_, ?_, ?_, ?_, ?_, trivial⟩
        · intro L a wa hL hI hs hd
          exact op_val _ (w' := wa) (by unfold execOp; go_simp; rfl) ⟨_, rfl, rfl, hI.step (by decide), trivial⟩
        · intro L a wa hL hI hs hd
          have e1 : a.eval (.tmp 6) = .pointer (some ⟨w.heap.size + 2, 0, none⟩) := hs 6 (by kernel_rfl)
          exact op_val _ (w' := wa) (by unfold execOp; simp only [e1]; go_simp) ⟨_, rfl, rfl, hI.step (by decide), trivial⟩
        · intro L a wa hL hI hs hd
          have e1 : a.eval (.tmp 106) = .pointer (some ⟨w.heap.size + 2, 7, none⟩) := hd.1
          have c0 : wa.cell? ⟨w.heap.size + 2, 7, none⟩ = some (.int .i64 ta) := hI.t.cell 7 _ rfl
          have hl := hI.t.lt
          exact op_val _ (w' := wa) (by unfold execOp; simp only [e1]; go_simp) ⟨_, rfl, rfl, hI.step (by decide), trivial⟩
        · intro L a wa hL hI hs hd
          have e1 : a.eval (.tmp 6) = .pointer (some ⟨w.heap.size + 2, 0, none⟩) := hs 6 (by kernel_rfl)
          exact op_val _ (w' := wa) (by unfold execOp; simp only [e1]; go_simp) ⟨_, rfl, rfl, hI.step (by decide), trivial⟩
        · intro L a wa hL hI hs hd
          have e1 : a.eval (.tmp 108) = .pointer (some ⟨w.heap.size + 2, 9, none⟩) := hd.1
          have c0 : wa.cell? ⟨w.heap.size + 2, 9, none⟩ = some (.int .i64 te) := hI.t.cell 9 _ rfl
          have hl := hI.t.lt
          exact op_val _ (w' := wa) (by unfold execOp; simp only [e1]; go_simp) ⟨_, rfl, rfl, hI.step (by decide), trivial⟩
        · intro L a wa hL hI hs hd
          have e1 : a.eval (.tmp 2) = .pointer (some ⟨w.heap.size, 0, none⟩) := hs 2 (by kernel_rfl)
          have e2 : a.eval (.tmp 105) = .agg (List.toArray zero6) := hd.1
          have hb := (hI.v0 hL).box
          have z0 := hb.froz 0
          have z1 := hb.froz 1
          have z2 := hb.froz 2
          have z3 := hb.froz 3
          have z4 := hb.froz 4
          have z5 := hb.froz 5
          have c0 := hb.cell 0 _ rfl
          have c1 := hb.cell 1 _ rfl
          have c2 := hb.cell 2 _ rfl
          have c3 := hb.cell 3 _ rfl
          have c4 := hb.cell 4 _ rfl
          have c5 := hb.cell 5 _ rfl
          have hl := hb.lt
          exact op_skip (w' := six wa w.heap.size (.int .i64 0) (.int .i64 0) (.int .i64 0) (.string ⟨#[]⟩) (.slice none 0 0) (.slice none 0 0)) (by unfold execOp; simp only [e1, e2, zero6, cells6]; go_simp; rfl) ⟨undef, rfl, trivial, hI.put hL, trivial⟩
        · intro L a wa hL hI hs hd
          have e1 : a.eval (.tmp 107) = .int .i64 ta := hd.1
          exact op_val _ (w' := wa) (by unfold execOp; simp only [e1]; go_simp) ⟨_, rfl, rfl, hI.step (by decide), trivial⟩
        · intro L a wa hL hI hs hd
          have e1 : a.eval (.tmp 109) = .int .i64 te := hd.1
          exact op_val _ (w' := wa) (by unfold execOp; simp only [e1]; go_simp) ⟨_, rfl, rfl, hI.step (by decide), trivial⟩
      · intro vs L W2 hL hI hall
        simp only [allHold, gives] at hall
        obtain ⟨h0, h1, h2, h3, h4, h5, h6, h7, _⟩ := hall
        simp only [putL]
        generalize vs 0 = v0 at *
        generalize vs 1 = v1 at *
        generalize vs 2 = v2 at *
        generalize vs 3 = v3 at *
        generalize vs 4 = v4 at *
        generalize vs 5 = v5 at *
        generalize vs 6 = v6 at *
        generalize vs 7 = v7 at *
        subst v0 v1 v2 v3 v4 v6 v7
        have HVB := Keep.mk (hI.v1 (hL 5 (by decide)))
        have HBE := Keep.mk hI.b
        have r0 := HVB.out.box.cell 0 _ rfl
        have r1 := HVB.out.box.cell 1 _ rfl
        have r2 := HVB.out.box.cell 2 _ rfl
        have r3 := HVB.out.box.cell 3 _ rfl
        have r4 := HVB.out.box.cell 4 _ rfl
        have r5 := HVB.out.box.cell 5 _ rfl
        clear hI hL HPS
        go_wp2
        rw [outP_ret]
        refine bodyPost_ret (v := .tuple #[.agg (List.toArray zero6), .int .i64 ta, .int .i64 te]) ?_ rfl ⟨zero6, by rw [HE.out], by rw [HE.out]; exact zero_in _ _, HBE.out⟩
        simp [zero6, cells6, results, Tryz.results6, go_sem, r0, r1, r2, r3, r4, r5]
    case pos =>
    by_cases hk : sg = 0 ∧ k = 4
    case neg =>
      have HE := Keep.mk (H.out.run.symm.trans (key_bad _ _ _ _ _ _ (by simpa using he) (by simp; omega)))
      subst he
      clear H
      by_cases h0 : sg = 0
      · subst h0
        have b1 : (k != 4) = true := by simp; omega
        clear hk
        go_wp2_with fail
        clear r0 r1 r2 r3 r4 r5 z0 z1 z2 z3 z4 z5 y0 y1 y2 y3 y4 y5 y6 y7 y8 y9 q0 q1 q2 q3 q4 q5 q6 q7 q8 q9 hsz 
        refine wp_region_every (ErrI w ⟨0, k, m, x, ts, ta, tt, 0⟩ (cells6 k9 m9 e9 s9 A9 n9 c9 A8 n8 c8) 3) (fun
          | 0 => fun v _ => v = .agg (List.toArray zero6)
          | 1 => fun v _ => v = .pointer (some ⟨w.heap.size + 2, 7, none⟩)
          | 2 => fun v _ => v = .int .i64 ta
          | 3 => fun v _ => True
          | 4 => fun v _ => v = .int .i64 ta
          | 5 => fun v _ => v = .int .i64 60
          | _ => fun _ _ => True) (fun _ _ _ => True) (by kernel_rfl) (by kernel_rfl) (ErrI.new HPS.out) ?_ ?_ ?_
        · intro i j v w1 w2 _ _
          match j with
          | 0 | 1 | 2 | 3 | 4 | 5 => exact fun h => h
          | _ + 6 => exact fun h => h
        · simp only [stepHold]
          refine ⟨?_, ?_, ?_, ?_, ?_, ?_, trivial⟩
          · intro L a wa hL hI hs hd
            exact op_val _ (w' := wa) (by unfold execOp; go_simp; rfl) ⟨_, rfl, rfl, hI.step (by decide), trivial⟩
          · intro L a wa hL hI hs hd
            have e1 : a.eval (.tmp 6) = .pointer (some ⟨w.heap.size + 2, 0, none⟩) := hs 6 (by kernel_rfl)
            exact op_val _ (w' := wa) (by unfold execOp; simp only [e1]; go_simp) ⟨_, rfl, rfl, hI.step (by decide), trivial⟩
          · intro L a wa hL hI hs hd
            have e1 : a.eval (.tmp 121) = .pointer (some ⟨w.heap.size + 2, 7, none⟩) := hd.1
            have c0 : wa.cell? ⟨w.heap.size + 2, 7, none⟩ = some (.int .i64 ta) := hI.t.cell 7 _ rfl
            have hl := hI.t.lt
            exact op_val _ (w' := wa) (by unfold execOp; simp only [e1]; go_simp) ⟨_, rfl, rfl, hI.step (by decide), trivial⟩
          · intro L a wa hL hI hs hd
            have e1 : a.eval (.tmp 2) = .pointer (some ⟨w.heap.size, 0, none⟩) := hs 2 (by kernel_rfl)
            have e2 : a.eval (.tmp 120) = .agg (List.toArray zero6) := hd.1
            have hb := (hI.v0 hL).box
            have z0 := hb.froz 0
            have z1 := hb.froz 1
            have z2 := hb.froz 2
            have z3 := hb.froz 3
            have z4 := hb.froz 4
            have z5 := hb.froz 5
            have c0 := hb.cell 0 _ rfl
            have c1 := hb.cell 1 _ rfl
            have c2 := hb.cell 2 _ rfl
            have c3 := hb.cell 3 _ rfl
            have c4 := hb.cell 4 _ rfl
            have c5 := hb.cell 5 _ rfl
            have hl := hb.lt
            exact op_skip (w' := six wa w.heap.size (.int .i64 0) (.int .i64 0) (.int .i64 0) (.string ⟨#[]⟩) (.slice none 0 0) (.slice none 0 0)) (by unfold execOp; simp only [e1, e2, zero6, cells6]; go_simp; rfl) ⟨undef, rfl, trivial, hI.put hL, trivial⟩
          · intro L a wa hL hI hs hd
            have e1 : a.eval (.tmp 122) = .int .i64 ta := hd.1
            exact op_val _ (w' := wa) (by unfold execOp; simp only [e1]; go_simp) ⟨_, rfl, rfl, hI.step (by decide), trivial⟩
          · intro L a wa hL hI hs hd
            exact op_val _ (w' := wa) (by unfold execOp; go_simp) ⟨_, rfl, rfl, hI.step (by decide), trivial⟩
        · intro vs L W2 hL hI hall
          simp only [allHold, gives] at hall
          obtain ⟨h0, h1, h2, h3, h4, h5, _⟩ := hall
          simp only [putL]
          generalize vs 0 = v0 at *
          generalize vs 1 = v1 at *
          generalize vs 2 = v2 at *
          generalize vs 3 = v3 at *
          generalize vs 4 = v4 at *
          generalize vs 5 = v5 at *
          subst v0 v1 v2 v4 v5
          have HVB := Keep.mk (hI.v1 (hL 3 (by decide)))
          have HBE := Keep.mk hI.b
          have r0 := HVB.out.box.cell 0 _ rfl
          have r1 := HVB.out.box.cell 1 _ rfl
          have r2 := HVB.out.box.cell 2 _ rfl
          have r3 := HVB.out.box.cell 3 _ rfl
          have r4 := HVB.out.box.cell 4 _ rfl
          have r5 := HVB.out.box.cell 5 _ rfl
          clear hI hL HPS
          go_wp2
          rw [outP_ret]
          refine bodyPost_ret (v := .tuple #[.agg (List.toArray zero6), .int .i64 ta, .int .i64 60]) ?_ rfl ⟨zero6, by rw [HE.out], by rw [HE.out]; exact zero_in _ _, HBE.out⟩
          simp [zero6, cells6, results, Tryz.results6, go_sem, r0, r1, r2, r3, r4, r5]
      · have b1 : ((sg : Int) != 0) = true := by simp; omega
        clear hk h0
        go_wp2_with fail
        clear r0 r1 r2 r3 r4 r5 z0 z1 z2 z3 z4 z5 y0 y1 y2 y3 y4 y5 y6 y7 y8 y9 q0 q1 q2 q3 q4 q5 q6 q7 q8 q9 hsz 
        refine wp_region_every (ErrI w ⟨sg, k, m, x, ts, ta, tt, 0⟩ (cells6 k9 m9 e9 s9 A9 n9 c9 A8 n8 c8) 3) (fun
          | 0 => fun v _ => v = .agg (List.toArray zero6)
          | 1 => fun v _ => v = .pointer (some ⟨w.heap.size + 2, 7, none⟩)
          | 2 => fun v _ => v = .int .i64 ta
          | 3 => fun v _ => True
          | 4 => fun v _ => v = .int .i64 ta
          | 5 => fun v _ => v = .int .i64 60
          | _ => fun _ _ => True) (fun _ _ _ => True) (by kernel_rfl) (by kernel_rfl) (ErrI.new HPS.out) ?_ ?_ ?_
        · intro i j v w1 w2 _ _
          match j with
          | 0 | 1 | 2 | 3 | 4 | 5 => exact fun h => h
          | _ + 6 => exact fun h => h
        · simp only [stepHold]
          refine ⟨?_, ?_, ?_, ?_, ?_, ?_, trivial⟩
          · intro L a wa hL hI hs hd
            exact op_val _ (w' := wa) (by unfold execOp; go_simp; rfl) ⟨_, rfl, rfl, hI.step (by decide), trivial⟩
          · intro L a wa hL hI hs hd
            have e1 : a.eval (.tmp 6) = .pointer (some ⟨w.heap.size + 2, 0, none⟩) := hs 6 (by kernel_rfl)
            exact op_val _ (w' := wa) (by unfold execOp; simp only [e1]; go_simp) ⟨_, rfl, rfl, hI.step (by decide), trivial⟩
          · intro L a wa hL hI hs hd
            have e1 : a.eval (.tmp 121) = .pointer (some ⟨w.heap.size + 2, 7, none⟩) := hd.1
            have c0 : wa.cell? ⟨w.heap.size + 2, 7, none⟩ = some (.int .i64 ta) := hI.t.cell 7 _ rfl
            have hl := hI.t.lt
            exact op_val _ (w' := wa) (by unfold execOp; simp only [e1]; go_simp) ⟨_, rfl, rfl, hI.step (by decide), trivial⟩
          · intro L a wa hL hI hs hd
            have e1 : a.eval (.tmp 2) = .pointer (some ⟨w.heap.size, 0, none⟩) := hs 2 (by kernel_rfl)
            have e2 : a.eval (.tmp 120) = .agg (List.toArray zero6) := hd.1
            have hb := (hI.v0 hL).box
            have z0 := hb.froz 0
            have z1 := hb.froz 1
            have z2 := hb.froz 2
            have z3 := hb.froz 3
            have z4 := hb.froz 4
            have z5 := hb.froz 5
            have c0 := hb.cell 0 _ rfl
            have c1 := hb.cell 1 _ rfl
            have c2 := hb.cell 2 _ rfl
            have c3 := hb.cell 3 _ rfl
            have c4 := hb.cell 4 _ rfl
            have c5 := hb.cell 5 _ rfl
            have hl := hb.lt
            exact op_skip (w' := six wa w.heap.size (.int .i64 0) (.int .i64 0) (.int .i64 0) (.string ⟨#[]⟩) (.slice none 0 0) (.slice none 0 0)) (by unfold execOp; simp only [e1, e2, zero6, cells6]; go_simp; rfl) ⟨undef, rfl, trivial, hI.put hL, trivial⟩
          · intro L a wa hL hI hs hd
            have e1 : a.eval (.tmp 122) = .int .i64 ta := hd.1
            exact op_val _ (w' := wa) (by unfold execOp; simp only [e1]; go_simp) ⟨_, rfl, rfl, hI.step (by decide), trivial⟩
          · intro L a wa hL hI hs hd
            exact op_val _ (w' := wa) (by unfold execOp; go_simp) ⟨_, rfl, rfl, hI.step (by decide), trivial⟩
        · intro vs L W2 hL hI hall
          simp only [allHold, gives] at hall
          obtain ⟨h0, h1, h2, h3, h4, h5, _⟩ := hall
          simp only [putL]
          generalize vs 0 = v0 at *
          generalize vs 1 = v1 at *
          generalize vs 2 = v2 at *
          generalize vs 3 = v3 at *
          generalize vs 4 = v4 at *
          generalize vs 5 = v5 at *
          subst v0 v1 v2 v4 v5
          have HVB := Keep.mk (hI.v1 (hL 3 (by decide)))
          have HBE := Keep.mk hI.b
          have r0 := HVB.out.box.cell 0 _ rfl
          have r1 := HVB.out.box.cell 1 _ rfl
          have r2 := HVB.out.box.cell 2 _ rfl
          have r3 := HVB.out.box.cell 3 _ rfl
          have r4 := HVB.out.box.cell 4 _ rfl
          have r5 := HVB.out.box.cell 5 _ rfl
          clear hI hL HPS
          go_wp2
          rw [outP_ret]
          refine bodyPost_ret (v := .tuple #[.agg (List.toArray zero6), .int .i64 ta, .int .i64 60]) ?_ rfl ⟨zero6, by rw [HE.out], by rw [HE.out]; exact zero_in _ _, HBE.out⟩
          simp [zero6, cells6, results, Tryz.results6, go_sem, r0, r1, r2, r3, r4, r5]
    case pos =>
    obtain ⟨rfl, rfl⟩ := hk
    subst he

    have HRUN := Keep.mk H.out.run
    have HFU := Keep.mk H.out.fuel
    have HWT := Keep.mk H.out.wt
    have HLN := Keep.mk H.out.len
    have HBG := Keep.mk H.out.big
    obtain ⟨o, st, k0, kv, lv, rs, rfl, rfl⟩ := rows_cons (H.out.top (Or.inl rfl)) H.out.ps.rows.len
    obtain ⟨g, HG⟩ := H.out.ps.topAt (by have := H.out.len; omega)
    have HG := Keep.mk HG
    go_upto_region 25 with fail
    have htsz : ts.size ≤ 140737488351232 := by have h1 : ta + 1 + ts.size ≤ tt := HT.out.wt rfl (show (0 : Nat) ≠ 255 by decide); have h2 : tt ≤ s.data.toList.length := HT.out.to_; have := HL.out; omega
    have HKV := Keep.mk (H.out.ps.rows.1)
    have hkb : ∀ b, kv.ownBlock = some b → w.heap.size + 3 ≤ b ∧ b < W.heap.size := fun b hb => HKV.out.kk.lt b hb
    have hkg : kv.ownBlock ≠ some g := fun e => HKV.out.sv H.out.ps.o g (Or.inl e) HG.out.own
    have hg2 := HG.out.hi
    have hgl := HG.out.lo
    have hgk : ∀ W', W.grownBy W' kv.ownBlock → W'.heap[g]? = W.heap[g]? := fun W' h => h.block g hg2 (fun e => hkg e.symm)
    have hgs : ∀ W', W.grownBy W' kv.ownBlock → W'.heap[w.heap.size + 1]? = W.heap[w.heap.size + 1]? := fun W' h => h.block _ (by omega) (fun e => by have := (hkb _ e.symm).1; omega)
    have hgt : ∀ W', W.grownBy W' kv.ownBlock → W'.heap[w.heap.size + 2]? = W.heap[w.heap.size + 2]? := fun W' h => h.block _ (by omega) (fun e => by have := (hkb _ e.symm).1; omega)
    have hlen := H.out.ps.rows.len
    have hst := H.out.len
    have hwt := H.out.wt
    clear r0 r1 r2 r3 r4 r5 z0 z1 z2 z3 z4 z5 y0 y1 y2 y3 y4 y5 y6 y7 y8 y9 q0 q1 q2 q3 q4 q5 q6 q7 q8 q9 hsz 
    refine wp_region_rely 10 (fun L w' => W.grownBy w' kv.ownBlock ∧ (L 9 = false → Below W.heap.size W w')) (fun
      | 0 => fun v _ => v = .pointer (some ⟨g, rs.length * 3, none⟩)
      | 1 => fun v _ => v = .pointer (some ⟨g, rs.length * 3, none⟩)
      | 2 => fun v _ => v = .pointer (some ⟨g, rs.length * 3, none⟩)
      | 3 => fun v _ => v = .pointer (some ⟨g, rs.length * 3 + 1, none⟩)
      | 4 => fun v _ => v = kv
      | 5 => fun v _ => v = .pointer (some ⟨w.heap.size + 2, 1, none⟩)
      | 6 => fun v _ => v = .pointer (some ⟨w.heap.size + 2, 4, none⟩)
      | 7 => fun v _ => v = .string ts
      | 8 => fun v w' => ∃ q, v = .slice (some ⟨q, 0, none⟩) 1 1 ∧ W.heap.size ≤ q ∧ q < w'.heap.size ∧ StrsIn w' (fun b => b = q) (some ⟨q, 0, none⟩) 1 [ts]
      | 9 => fun v w' => OwnS w' (w.heap.size + 3) v (o.keys ++ [ts]) ∧ (v.ownBlock = kv.ownBlock ∨ ∃ b, v.ownBlock = some b ∧ W.heap.size ≤ b)
      | _ => fun _ _ => True) (fun | 9 => fun w1 w2 => w1.grownBy w2 kv.ownBlock | _ => fun w1 w2 => Below w1.heap.size w1 w2) (by kernel_rfl) (by kernel_rfl)
      ⟨⟨rfl, rfl, rfl, Nat.le_refl _, fun _ _ _ => rfl⟩, fun _ => below_drawn W⟩ ?_ ?_ ?_
    · intro i j v w1 w2 hij hG
      match j with
      | 0 | 1 | 2 | 3 | 4 | 5 | 6 | 7 => exact fun h => h
      | 8 =>
        rintro ⟨q, h1, h2, h3, h4⟩
        have hst : w2.heap[q]? = w1.heap[q]? ∧ w1.heap.size ≤ w2.heap.size := by
          match i, hij with
          | 0, _ | 1, _ | 2, _ | 3, _ | 4, _ | 5, _ | 6, _ | 7, _ => exact ⟨hG.block q h3, hG.size⟩
          | 8, h => exact absurd rfl h
          | 9, _ => exact ⟨hG.block q h3 (fun e => by have := (hkb q e.symm).2; omega), hG.size⟩
          | _ + 10, _ => exact ⟨hG.block q h3, hG.size⟩
        exact ⟨q, h1, h2, Nat.lt_of_lt_of_le h3 hst.2, h4.keep (fun b hb => by subst hb; exact hst.1) (fun _ h => h)⟩
      | 9 =>
        rintro ⟨h1, h2⟩
        have hG : Below w1.heap.size w1 w2 := by
          match i, hij with
          | 0, _ | 1, _ | 2, _ | 3, _ | 4, _ | 5, _ | 6, _ | 7, _ | 8, _ => exact hG
          | 9, h => exact absurd rfl h
          | _ + 10, _ => exact hG
        exact ⟨h1.keep (fun b hb => hG.block b (h1.lt b hb).2), h2⟩
      | _ + 10 => exact fun h => h
    · simp only [List.take, stepHold]
      refine ⟨?_, ?_, ?_, ?_, ?_, ?_, ?_, ?_, ?_, ?_, trivial⟩
      · intro L a wa hL hI hs hd
        have e1 : a.eval (.tmp 5) = .pointer (some ⟨w.heap.size + 1, 0, none⟩) := hs 5 (by kernel_rfl)
        have f1 := get_form e1
        refine op_call 11 #[.pointer (some ⟨w.heap.size + 1, 0, none⟩)] (by unfold execOp; go_simp) ((HG.out.top wa (hgs wa hI.1) (hgk wa hI.1)).mono ?_)
        rintro r w1 ⟨rfl, hb1⟩
        exact ⟨_, rfl, _, rfl, rfl, ⟨grown_below hI.1 hb1, fun h => up (hI.2 (by simpa using h)) hb1⟩, hb1⟩
      · intro L a wa hL hI hs hd
        have e1 : a.eval (.tmp 5) = .pointer (some ⟨w.heap.size + 1, 0, none⟩) := hs 5 (by kernel_rfl)
        have f1 := get_form e1
        refine op_call 11 #[.pointer (some ⟨w.heap.size + 1, 0, none⟩)] (by unfold execOp; go_simp) ((HG.out.top wa (hgs wa hI.1) (hgk wa hI.1)).mono ?_)
        rintro r w1 ⟨rfl, hb1⟩
        exact ⟨_, rfl, _, rfl, rfl, ⟨grown_below hI.1 hb1, fun h => up (hI.2 (by simpa using h)) hb1⟩, hb1⟩
      · intro L a wa hL hI hs hd
        have e1 : a.eval (.tmp 124) = .pointer (some ⟨g, rs.length * 3, none⟩) := hd.1
        exact op_val _ (w' := wa) (by unfold execOp; simp only [e1]; go_simp) ⟨_, rfl, rfl, ⟨hI.1, fun h => hI.2 (by simpa using h)⟩, Below.refl _ _⟩
      · intro L a wa hL hI hs hd
        have e1 : a.eval (.tmp 125) = .pointer (some ⟨g, rs.length * 3, none⟩) := hd.1
        exact op_val _ (w' := wa) (by unfold execOp; simp only [e1]; go_simp) ⟨_, rfl, rfl, ⟨hI.1, fun h => hI.2 (by simpa using h)⟩, Below.refl _ _⟩
      · intro L a wa hL hI hs hd
        have e1 : a.eval (.tmp 126) = .pointer (some ⟨g, rs.length * 3 + 1, none⟩) := hd.1
        have c0 := HG.out.cell 1 _ rfl wa (hgk wa hI.1)
        have hga : g < wa.heap.size := Nat.lt_of_lt_of_le hg2 hI.1.size
        obtain ⟨Bv, dv, hvf, _, _⟩ := HKV.out.kk.form
        have hvf : kv = _ := hvf
        rw [hvf] at c0
        exact op_val kv (w' := wa) (by rw [hvf]; unfold execOp; simp only [e1]; go_simp) ⟨_, rfl, rfl, ⟨hI.1, fun h => hI.2 (by simpa using h)⟩, Below.refl _ _⟩
      · intro L a wa hL hI hs hd
        have e1 : a.eval (.tmp 6) = .pointer (some ⟨w.heap.size + 2, 0, none⟩) := hs 6 (by kernel_rfl)
        exact op_val _ (w' := wa) (by unfold execOp; simp only [e1]; go_simp) ⟨_, rfl, rfl, ⟨hI.1, fun h => hI.2 (by simpa using h)⟩, Below.refl _ _⟩
      · intro L a wa hL hI hs hd
        have e1 : a.eval (.tmp 128) = .pointer (some ⟨w.heap.size + 2, 1, none⟩) := hd.1
        exact op_val _ (w' := wa) (by unfold execOp; simp only [e1]; go_simp) ⟨_, rfl, rfl, ⟨hI.1, fun h => hI.2 (by simpa using h)⟩, Below.refl _ _⟩
      · intro L a wa hL hI hs hd
        have e1 : a.eval (.tmp 129) = .pointer (some ⟨w.heap.size + 2, 4, none⟩) := hd.1
        have c0 : wa.cell? ⟨w.heap.size + 2, 4, none⟩ = some (.string ts) := (cell_block (hgt wa hI.1)).trans (HPS.out.tb.cell 4 _ rfl)
        have hga : w.heap.size + 2 < wa.heap.size := by have := hI.1.size; omega
        exact op_val _ (w' := wa) (by unfold execOp; simp only [e1]; go_simp) ⟨_, rfl, rfl, ⟨hI.1, fun h => hI.2 (by simpa using h)⟩, Below.refl _ _⟩
      · intro L a wa hL hI hs hd
        have e1 : a.eval (.tmp 130) = .string ts := hd.1
        have f1 := get_form e1
        exact op_val _ (w' := wa.alloc (.cells #[.string ts] 9)) (by unfold execOp; go_simp) ⟨_, rfl, ⟨wa.heap.size, rfl, hI.1.size, by simp, strs_one wa ts htsz _⟩, ⟨grown_below hI.1 (al1 _ _), fun h => up (hI.2 (by simpa using h)) (al1 _ _)⟩, al1 _ _⟩
      · intro L a wa hL hI hs hd
        have e1 : a.eval (.tmp 127) = kv := hd.1
        obtain ⟨q, e2, hq1, hq2, hq3⟩ := hd.2.1
        have e2 : a.eval (.tmp 131) = .slice (some ⟨q, 0, none⟩) 1 1 := e2
        have hB := hI.2 hL
        refine op_append_strs (.tmp 127) (.tmp 131) rfl (w.heap.size + 3) kv o.keys e1 (HKV.out.kk.keep (fun b hb => hB.block b (hkb b hb).2)) _ _ 1 1 [ts] rfl e2 hq3 ?_ (by have := hB.size; omega) fun v2 w2 h1 h2 h3 => ⟨_, rfl, ⟨h1, ?_⟩, ⟨grown_trans hI.1 h2, fun h => by simp at h⟩, h2⟩
        · have := keysN_len o.keys
          have h5 : keysN o.keys ≤ 16384 + 100000000 := by have h7 : ta ≤ s.data.toList.length := HT.out.at_; have h6 : weighS (o :: st) = 1 + keysN o.keys + sizeL o.list + weighS st := rfl; have h8 : weighS (o :: st) + 0 ≤ ta := hwt; have := HL.out; omega
          show o.keys.length + 1 ≤ _; omega
        · rcases h3 with h3 | h3
          · exact Or.inl h3
          · exact Or.inr ⟨_, h3, hB.size⟩
    · intro vs L W2 _ hI hall
      simp only [List.take, allHold, gives] at hall
      obtain ⟨h0, h1, h2, h3, h4, h5, h6, h7, h8, h9, _⟩ := hall
      simp only [List.take, List.drop, putL]
      generalize vs 0 = v0 at *
      generalize vs 1 = v1 at *
      generalize vs 2 = v2 at *
      generalize vs 3 = v3 at *
      generalize vs 4 = v4 at *
      generalize vs 5 = v5 at *
      generalize vs 6 = v6 at *
      generalize vs 7 = v7 at *
      generalize vs 8 = v8 at *
      generalize vs 9 = v9 at *
      obtain ⟨q, rfl, _⟩ := h8
      obtain ⟨hO9, hn9⟩ := h9
      subst v0 v1 v2 v3 v4 v5 v6 v7
      have HPS2 := Keep.mk (HPS.out.keyed hI.1 hO9 hn9 HG.out.own)
      obtain ⟨B9, d9, rfl, _, _⟩ := hO9.form
      have hga : g < W2.heap.size := Nat.lt_of_lt_of_le hg2 hI.1.size
      have c0 := HG.out.cell 1 _ rfl W2 (hgk W2 hI.1)
      have z0 := HG.out.froz (rs.length * 3 + 1) W2 (hgk W2 hI.1)
      clear hI hO9 hn9 HKV hgk hgs hgt hkb hkg HPS
      go_upto_region 26 with fail
      refine wp_world (fun W => PS w W (⟨o.kind, o.keys ++ [ts], o.list⟩ :: st) ((k0, .slice B9 (o.keys ++ [ts]).length d9, lv) :: rs) sv ⟨0, 4, m, x, ts, ta, tt, 0⟩ (cells6 k9 m9 e9 s9 A9 n9 c9 A8 n8 c8)) ?_ ?_
      · simpa using HPS2.out
      clear HPS2 c0 z0 hga H HG hgl hg2 hwt hst hlen
      rintro W3 HPS3
      replace HPS3 := Keep.mk HPS3
      have HNX := Keep.mk (fun (W' : World) (hg : GlobV W') => read_next s hs tt (by have h2 : tt ≤ s.data.toList.length := HT.out.to_; have := HL.out; omega) W' hg)
      have yt : W3.cell? ⟨w.heap.size + 2, 8, none⟩ = some (.int .i64 tt) := HPS3.out.tb.cell 8 _ rfl
      have hszA := HPS3.out.size
      go_wp2_with fail
      refine (HNX.out _ HPS3.out.gg).mono ?_
      rintro rn Wn ⟨rfl, hbn⟩
      have HPSn := Keep.mk (HPS3.out.below hbn)
      obtain ⟨t4, htn⟩ : ∃ t, nextT s.data.toList tt = t := ⟨_, rfl⟩
      rw [htn]
      have HN4 := Keep.mk htn
      have HT4 := Keep.mk (by have h := next_tokF s.data.toList tt HT.out.to_; rw [htn] at h; exact h)
      clear htn hbn hszA HPS3 HNX yt
      have q0 := HPSn.out.tb.froz 0
      have q1 := HPSn.out.tb.froz 1
      have q2 := HPSn.out.tb.froz 2
      have q3 := HPSn.out.tb.froz 3
      have q4 := HPSn.out.tb.froz 4
      have q5 := HPSn.out.tb.froz 5
      have q6 := HPSn.out.tb.froz 6
      have q7 := HPSn.out.tb.froz 7
      have q8 := HPSn.out.tb.froz 8
      have q9 := HPSn.out.tb.froz 9
      have y0 := HPSn.out.tb.cell 0 _ rfl
      have y1 := HPSn.out.tb.cell 1 _ rfl
      have y2 := HPSn.out.tb.cell 2 _ rfl
      have y3 := HPSn.out.tb.cell 3 _ rfl
      have y4 := HPSn.out.tb.cell 4 _ rfl
      have y5 := HPSn.out.tb.cell 5 _ rfl
      have y6 := HPSn.out.tb.cell 6 _ rfl
      have y7 := HPSn.out.tb.cell 7 _ rfl
      have y8 := HPSn.out.tb.cell 8 _ rfl
      have y9 := HPSn.out.tb.cell 9 _ rfl
      have hsn := HPSn.out.size
      simp only [tokC]
      go_upto_block 2 with fail
      refine wp_world (fun W => PS w W (⟨o.kind, o.keys ++ [ts], o.list⟩ :: st) ((k0, .slice B9 (o.keys ++ [ts]).length d9, lv) :: rs) sv t4 (cells6 k9 m9 e9 s9 A9 n9 c9 A8 n8 c8)) (HPSn.out.tok t4) ?_
      clear HPSn hsn q0 q1 q2 q3 q4 q5 q6 q7 q8 q9 y0 y1 y2 y3 y4 y5 y6 y7 y8 y9
      rintro W4 HPS4
      replace HPS4 := Keep.mk HPS4
      obtain ⟨sg2, k2, m2, x2, ts2, ta2, tt2, te2⟩ := t4
      by_cases he : te2 = 0
      case neg =>
        have b1 : (te2 != 0) = true := by simpa using he
        have HE := Keep.mk (HRUN.out.symm.trans (key_err2 _ _ _ _ _ _ _ _ HN4.out rfl rfl rfl (by simpa using he)))
        clear he
        have r0 := HPS4.out.v.box.cell 0 _ rfl
        have r1 := HPS4.out.v.box.cell 1 _ rfl
        have r2 := HPS4.out.v.box.cell 2 _ rfl
        have r3 := HPS4.out.v.box.cell 3 _ rfl
        have r4 := HPS4.out.v.box.cell 4 _ rfl
        have r5 := HPS4.out.v.box.cell 5 _ rfl
        have z0 := HPS4.out.v.box.froz 0
        have z1 := HPS4.out.v.box.froz 1
        have z2 := HPS4.out.v.box.froz 2
        have z3 := HPS4.out.v.box.froz 3
        have z4 := HPS4.out.v.box.froz 4
        have z5 := HPS4.out.v.box.froz 5
        have hsz := HPS4.out.size
        have y0 : W4.cell? ⟨w.heap.size + 2, 0, none⟩ = some (.int .u8 sg2) := HPS4.out.tb.cell 0 _ rfl
        have y1 : W4.cell? ⟨w.heap.size + 2, 1, none⟩ = some (.int .i64 k2) := HPS4.out.tb.cell 1 _ rfl
        have y2 : W4.cell? ⟨w.heap.size + 2, 2, none⟩ = some (.int .i64 m2) := HPS4.out.tb.cell 2 _ rfl
        have y3 : W4.cell? ⟨w.heap.size + 2, 3, none⟩ = some (.int .i64 x2) := HPS4.out.tb.cell 3 _ rfl
        have y4 : W4.cell? ⟨w.heap.size + 2, 4, none⟩ = some (.string ts2) := HPS4.out.tb.cell 4 _ rfl
        have y5 : W4.cell? ⟨w.heap.size + 2, 5, none⟩ = some (.slice none 0 0) := HPS4.out.tb.cell 5 _ rfl
        have y6 : W4.cell? ⟨w.heap.size + 2, 6, none⟩ = some (.slice none 0 0) := HPS4.out.tb.cell 6 _ rfl
        have y7 : W4.cell? ⟨w.heap.size + 2, 7, none⟩ = some (.int .i64 ta2) := HPS4.out.tb.cell 7 _ rfl
        have y8 : W4.cell? ⟨w.heap.size + 2, 8, none⟩ = some (.int .i64 tt2) := HPS4.out.tb.cell 8 _ rfl
        have y9 : W4.cell? ⟨w.heap.size + 2, 9, none⟩ = some (.int .i64 te2) := HPS4.out.tb.cell 9 _ rfl
        have q0 := HPS4.out.tb.froz 0
        have q1 := HPS4.out.tb.froz 1
        have q2 := HPS4.out.tb.froz 2
        have q3 := HPS4.out.tb.froz 3
        have q4 := HPS4.out.tb.froz 4
        have q5 := HPS4.out.tb.froz 5
        have q6 := HPS4.out.tb.froz 6
        have q7 := HPS4.out.tb.froz 7
        have q8 := HPS4.out.tb.froz 8
        have q9 := HPS4.out.tb.froz 9
        go_wp2_with fail
        clear r0 r1 r2 r3 r4 r5 z0 z1 z2 z3 z4 z5 y0 y1 y2 y3 y4 y5 y6 y7 y8 y9 q0 q1 q2 q3 q4 q5 q6 q7 q8 q9 hsz 
        refine wp_region_every (ErrI w ⟨sg2, k2, m2, x2, ts2, ta2, tt2, te2⟩ (cells6 k9 m9 e9 s9 A9 n9 c9 A8 n8 c8) 5) (fun
          | 0 => fun v _ => v = .agg (List.toArray zero6)
          | 1 => fun v _ => v = .pointer (some ⟨w.heap.size + 2, 7, none⟩)
          | 2 => fun v _ => v = .int .i64 ta2
          | 3 => fun v _ => v = .pointer (some ⟨w.heap.size + 2, 9, none⟩)
          | 4 => fun v _ => v = .int .i64 te2
          | 5 => fun v _ => True
          | 6 => fun v _ => v = .int .i64 ta2
          | 7 => fun v _ => v = .int .i64 te2
          | _ => fun _ _ => True) (fun _ _ _ => True) (by kernel_rfl) (by kernel_rfl) (ErrI.new HPS4.out) ?_ ?_ ?_
        · intro i j v w1 w2 _ _
          match j with
          | 0 | 1 | 2 | 3 | 4 | 5 | 6 | 7 => exact fun h => h
          | _ + 8 => exact fun h => h
        · simp only [stepHold]
          refine ⟨?_, ?_, ?_, ?_, ?_, ?_, ?_, ?_, trivial⟩
          · intro L a wa hL hI hs hd
            exact op_val _ (w' := wa) (by unfold execOp; go_simp; rfl) ⟨_, rfl, rfl, hI.step (by decide), trivial⟩
          · intro L a wa hL hI hs hd
            have e1 : a.eval (.tmp 6) = .pointer (some ⟨w.heap.size + 2, 0, none⟩) := hs 6 (by kernel_rfl)
            exact op_val _ (w' := wa) (by unfold execOp; simp only [e1]; go_simp) ⟨_, rfl, rfl, hI.step (by decide), trivial⟩
          · intro L a wa hL hI hs hd
            have e1 : a.eval (.tmp 144) = .pointer (some ⟨w.heap.size + 2, 7, none⟩) := hd.1
            have c0 : wa.cell? ⟨w.heap.size + 2, 7, none⟩ = some (.int .i64 ta2) := hI.t.cell 7 _ rfl
            have hl := hI.t.lt
            exact op_val _ (w' := wa) (by unfold execOp; simp only [e1]; go_simp) ⟨_, rfl, rfl, hI.step (by decide), trivial⟩
          · intro L a wa hL hI hs hd
            have e1 : a.eval (.tmp 6) = .pointer (some ⟨w.heap.size + 2, 0, none⟩) := hs 6 (by kernel_rfl)
            exact op_val _ (w' := wa) (by unfold execOp; simp only [e1]; go_simp) ⟨_, rfl, rfl, hI.step (by decide), trivial⟩
          · intro L a wa hL hI hs hd
            have e1 : a.eval (.tmp 146) = .pointer (some ⟨w.heap.size + 2, 9, none⟩) := hd.1
            have c0 : wa.cell? ⟨w.heap.size + 2, 9, none⟩ = some (.int .i64 te2) := hI.t.cell 9 _ rfl
            have hl := hI.t.lt
            exact op_val _ (w' := wa) (by unfold execOp; simp only [e1]; go_simp) ⟨_, rfl, rfl, hI.step (by decide), trivial⟩
          · intro L a wa hL hI hs hd
            have e1 : a.eval (.tmp 2) = .pointer (some ⟨w.heap.size, 0, none⟩) := hs 2 (by kernel_rfl)
            have e2 : a.eval (.tmp 143) = .agg (List.toArray zero6) := hd.1
            have hb := (hI.v0 hL).box
            have z0 := hb.froz 0
            have z1 := hb.froz 1
            have z2 := hb.froz 2
            have z3 := hb.froz 3
            have z4 := hb.froz 4
            have z5 := hb.froz 5
            have c0 := hb.cell 0 _ rfl
            have c1 := hb.cell 1 _ rfl
            have c2 := hb.cell 2 _ rfl
            have c3 := hb.cell 3 _ rfl
            have c4 := hb.cell 4 _ rfl
            have c5 := hb.cell 5 _ rfl
            have hl := hb.lt
            exact op_skip (w' := six wa w.heap.size (.int .i64 0) (.int .i64 0) (.int .i64 0) (.string ⟨#[]⟩) (.slice none 0 0) (.slice none 0 0)) (by unfold execOp; simp only [e1, e2, zero6, cells6]; go_simp; rfl) ⟨undef, rfl, trivial, hI.put hL, trivial⟩
          · intro L a wa hL hI hs hd
            have e1 : a.eval (.tmp 145) = .int .i64 ta2 := hd.1
            exact op_val _ (w' := wa) (by unfold execOp; simp only [e1]; go_simp) ⟨_, rfl, rfl, hI.step (by decide), trivial⟩
          · intro L a wa hL hI hs hd
            have e1 : a.eval (.tmp 147) = .int .i64 te2 := hd.1
            exact op_val _ (w' := wa) (by unfold execOp; simp only [e1]; go_simp) ⟨_, rfl, rfl, hI.step (by decide), trivial⟩
        · intro vs L W2 hL hI hall
          simp only [allHold, gives] at hall
          obtain ⟨h0, h1, h2, h3, h4, h5, h6, h7, _⟩ := hall
          simp only [putL]
          generalize vs 0 = v0 at *
          generalize vs 1 = v1 at *
          generalize vs 2 = v2 at *
          generalize vs 3 = v3 at *
          generalize vs 4 = v4 at *
          generalize vs 5 = v5 at *
          generalize vs 6 = v6 at *
          generalize vs 7 = v7 at *
          subst v0 v1 v2 v3 v4 v6 v7
          have HVB := Keep.mk (hI.v1 (hL 5 (by decide)))
          have HBE := Keep.mk hI.b
          have r0 := HVB.out.box.cell 0 _ rfl
          have r1 := HVB.out.box.cell 1 _ rfl
          have r2 := HVB.out.box.cell 2 _ rfl
          have r3 := HVB.out.box.cell 3 _ rfl
          have r4 := HVB.out.box.cell 4 _ rfl
          have r5 := HVB.out.box.cell 5 _ rfl
          clear hI hL HPS4
          go_wp2
          rw [outP_ret]
          refine bodyPost_ret (v := .tuple #[.agg (List.toArray zero6), .int .i64 ta2, .int .i64 te2]) ?_ rfl ⟨zero6, by rw [HE.out], by rw [HE.out]; exact zero_in _ _, HBE.out⟩
          simp [zero6, cells6, results, Tryz.results6, go_sem, r0, r1, r2, r3, r4, r5]
      case pos =>
      by_cases h58 : sg2 = 58
      case neg =>
        have b1 : ((sg2 : Int) != 58) = true := by simp; omega
        have HE := Keep.mk (HRUN.out.symm.trans (key_bad2 _ _ _ _ _ _ _ _ HN4.out rfl rfl rfl (by simpa using he) (by simpa using h58)))
        clear h58
        subst he
        have r0 := HPS4.out.v.box.cell 0 _ rfl
        have r1 := HPS4.out.v.box.cell 1 _ rfl
        have r2 := HPS4.out.v.box.cell 2 _ rfl
        have r3 := HPS4.out.v.box.cell 3 _ rfl
        have r4 := HPS4.out.v.box.cell 4 _ rfl
        have r5 := HPS4.out.v.box.cell 5 _ rfl
        have z0 := HPS4.out.v.box.froz 0
        have z1 := HPS4.out.v.box.froz 1
        have z2 := HPS4.out.v.box.froz 2
        have z3 := HPS4.out.v.box.froz 3
        have z4 := HPS4.out.v.box.froz 4
        have z5 := HPS4.out.v.box.froz 5
        have hsz := HPS4.out.size
        have y0 : W4.cell? ⟨w.heap.size + 2, 0, none⟩ = some (.int .u8 sg2) := HPS4.out.tb.cell 0 _ rfl
        have y1 : W4.cell? ⟨w.heap.size + 2, 1, none⟩ = some (.int .i64 k2) := HPS4.out.tb.cell 1 _ rfl
        have y2 : W4.cell? ⟨w.heap.size + 2, 2, none⟩ = some (.int .i64 m2) := HPS4.out.tb.cell 2 _ rfl
        have y3 : W4.cell? ⟨w.heap.size + 2, 3, none⟩ = some (.int .i64 x2) := HPS4.out.tb.cell 3 _ rfl
        have y4 : W4.cell? ⟨w.heap.size + 2, 4, none⟩ = some (.string ts2) := HPS4.out.tb.cell 4 _ rfl
        have y5 : W4.cell? ⟨w.heap.size + 2, 5, none⟩ = some (.slice none 0 0) := HPS4.out.tb.cell 5 _ rfl
        have y6 : W4.cell? ⟨w.heap.size + 2, 6, none⟩ = some (.slice none 0 0) := HPS4.out.tb.cell 6 _ rfl
        have y7 : W4.cell? ⟨w.heap.size + 2, 7, none⟩ = some (.int .i64 ta2) := HPS4.out.tb.cell 7 _ rfl
        have y8 : W4.cell? ⟨w.heap.size + 2, 8, none⟩ = some (.int .i64 tt2) := HPS4.out.tb.cell 8 _ rfl
        have y9 : W4.cell? ⟨w.heap.size + 2, 9, none⟩ = some (.int .i64 0) := HPS4.out.tb.cell 9 _ rfl
        have q0 := HPS4.out.tb.froz 0
        have q1 := HPS4.out.tb.froz 1
        have q2 := HPS4.out.tb.froz 2
        have q3 := HPS4.out.tb.froz 3
        have q4 := HPS4.out.tb.froz 4
        have q5 := HPS4.out.tb.froz 5
        have q6 := HPS4.out.tb.froz 6
        have q7 := HPS4.out.tb.froz 7
        have q8 := HPS4.out.tb.froz 8
        have q9 := HPS4.out.tb.froz 9
        go_wp2_with fail
        clear r0 r1 r2 r3 r4 r5 z0 z1 z2 z3 z4 z5 y0 y1 y2 y3 y4 y5 y6 y7 y8 y9 q0 q1 q2 q3 q4 q5 q6 q7 q8 q9 hsz 
        refine wp_region_every (ErrI w ⟨sg2, k2, m2, x2, ts2, ta2, tt2, 0⟩ (cells6 k9 m9 e9 s9 A9 n9 c9 A8 n8 c8) 3) (fun
          | 0 => fun v _ => v = .agg (List.toArray zero6)
          | 1 => fun v _ => v = .pointer (some ⟨w.heap.size + 2, 7, none⟩)
          | 2 => fun v _ => v = .int .i64 ta2
          | 3 => fun v _ => True
          | 4 => fun v _ => v = .int .i64 ta2
          | 5 => fun v _ => v = .int .i64 60
          | _ => fun _ _ => True) (fun _ _ _ => True) (by kernel_rfl) (by kernel_rfl) (ErrI.new HPS4.out) ?_ ?_ ?_
        · intro i j v w1 w2 _ _
          match j with
          | 0 | 1 | 2 | 3 | 4 | 5 => exact fun h => h
          | _ + 6 => exact fun h => h
        · simp only [stepHold]
          refine ⟨?_, ?_, ?_, ?_, ?_, ?_, trivial⟩
          · intro L a wa hL hI hs hd
            exact op_val _ (w' := wa) (by unfold execOp; go_simp; rfl) ⟨_, rfl, rfl, hI.step (by decide), trivial⟩
          · intro L a wa hL hI hs hd
            have e1 : a.eval (.tmp 6) = .pointer (some ⟨w.heap.size + 2, 0, none⟩) := hs 6 (by kernel_rfl)
            exact op_val _ (w' := wa) (by unfold execOp; simp only [e1]; go_simp) ⟨_, rfl, rfl, hI.step (by decide), trivial⟩
          · intro L a wa hL hI hs hd
            have e1 : a.eval (.tmp 153) = .pointer (some ⟨w.heap.size + 2, 7, none⟩) := hd.1
            have c0 : wa.cell? ⟨w.heap.size + 2, 7, none⟩ = some (.int .i64 ta2) := hI.t.cell 7 _ rfl
            have hl := hI.t.lt
            exact op_val _ (w' := wa) (by unfold execOp; simp only [e1]; go_simp) ⟨_, rfl, rfl, hI.step (by decide), trivial⟩
          · intro L a wa hL hI hs hd
            have e1 : a.eval (.tmp 2) = .pointer (some ⟨w.heap.size, 0, none⟩) := hs 2 (by kernel_rfl)
            have e2 : a.eval (.tmp 152) = .agg (List.toArray zero6) := hd.1
            have hb := (hI.v0 hL).box
            have z0 := hb.froz 0
            have z1 := hb.froz 1
            have z2 := hb.froz 2
            have z3 := hb.froz 3
            have z4 := hb.froz 4
            have z5 := hb.froz 5
            have c0 := hb.cell 0 _ rfl
            have c1 := hb.cell 1 _ rfl
            have c2 := hb.cell 2 _ rfl
            have c3 := hb.cell 3 _ rfl
            have c4 := hb.cell 4 _ rfl
            have c5 := hb.cell 5 _ rfl
            have hl := hb.lt
            exact op_skip (w' := six wa w.heap.size (.int .i64 0) (.int .i64 0) (.int .i64 0) (.string ⟨#[]⟩) (.slice none 0 0) (.slice none 0 0)) (by unfold execOp; simp only [e1, e2, zero6, cells6]; go_simp; rfl) ⟨undef, rfl, trivial, hI.put hL, trivial⟩
          · intro L a wa hL hI hs hd
            have e1 : a.eval (.tmp 154) = .int .i64 ta2 := hd.1
            exact op_val _ (w' := wa) (by unfold execOp; simp only [e1]; go_simp) ⟨_, rfl, rfl, hI.step (by decide), trivial⟩
          · intro L a wa hL hI hs hd
            exact op_val _ (w' := wa) (by unfold execOp; go_simp) ⟨_, rfl, rfl, hI.step (by decide), trivial⟩
        · intro vs L W2 hL hI hall
          simp only [allHold, gives] at hall
          obtain ⟨h0, h1, h2, h3, h4, h5, _⟩ := hall
          simp only [putL]
          generalize vs 0 = v0 at *
          generalize vs 1 = v1 at *
          generalize vs 2 = v2 at *
          generalize vs 3 = v3 at *
          generalize vs 4 = v4 at *
          generalize vs 5 = v5 at *
          subst v0 v1 v2 v4 v5
          have HVB := Keep.mk (hI.v1 (hL 3 (by decide)))
          have HBE := Keep.mk hI.b
          have r0 := HVB.out.box.cell 0 _ rfl
          have r1 := HVB.out.box.cell 1 _ rfl
          have r2 := HVB.out.box.cell 2 _ rfl
          have r3 := HVB.out.box.cell 3 _ rfl
          have r4 := HVB.out.box.cell 4 _ rfl
          have r5 := HVB.out.box.cell 5 _ rfl
          clear hI hL HPS4
          go_wp2
          rw [outP_ret]
          refine bodyPost_ret (v := .tuple #[.agg (List.toArray zero6), .int .i64 ta2, .int .i64 60]) ?_ rfl ⟨zero6, by rw [HE.out], by rw [HE.out]; exact zero_in _ _, HBE.out⟩
          simp [zero6, cells6, results, Tryz.results6, go_sem, r0, r1, r2, r3, r4, r5]
      case pos =>
      subst he h58

      have hsz := HPS4.out.size
      have y0 : W4.cell? ⟨w.heap.size + 2, 0, none⟩ = some (.int .u8 58) := HPS4.out.tb.cell 0 _ rfl
      have y1 : W4.cell? ⟨w.heap.size + 2, 1, none⟩ = some (.int .i64 k2) := HPS4.out.tb.cell 1 _ rfl
      have y2 : W4.cell? ⟨w.heap.size + 2, 2, none⟩ = some (.int .i64 m2) := HPS4.out.tb.cell 2 _ rfl
      have y3 : W4.cell? ⟨w.heap.size + 2, 3, none⟩ = some (.int .i64 x2) := HPS4.out.tb.cell 3 _ rfl
      have y4 : W4.cell? ⟨w.heap.size + 2, 4, none⟩ = some (.string ts2) := HPS4.out.tb.cell 4 _ rfl
      have y5 : W4.cell? ⟨w.heap.size + 2, 5, none⟩ = some (.slice none 0 0) := HPS4.out.tb.cell 5 _ rfl
      have y6 : W4.cell? ⟨w.heap.size + 2, 6, none⟩ = some (.slice none 0 0) := HPS4.out.tb.cell 6 _ rfl
      have y7 : W4.cell? ⟨w.heap.size + 2, 7, none⟩ = some (.int .i64 ta2) := HPS4.out.tb.cell 7 _ rfl
      have y8 : W4.cell? ⟨w.heap.size + 2, 8, none⟩ = some (.int .i64 tt2) := HPS4.out.tb.cell 8 _ rfl
      have y9 : W4.cell? ⟨w.heap.size + 2, 9, none⟩ = some (.int .i64 0) := HPS4.out.tb.cell 9 _ rfl
      have q0 := HPS4.out.tb.froz 0
      have q1 := HPS4.out.tb.froz 1
      have q2 := HPS4.out.tb.froz 2
      have q3 := HPS4.out.tb.froz 3
      have q4 := HPS4.out.tb.froz 4
      have q5 := HPS4.out.tb.froz 5
      have q6 := HPS4.out.tb.froz 6
      have q7 := HPS4.out.tb.froz 7
      have q8 := HPS4.out.tb.froz 8
      have q9 := HPS4.out.tb.froz 9
      have HNX := Keep.mk (fun (W' : World) (hg : GlobV W') => read_next s hs tt2 (by have h2 : tt2 ≤ s.data.toList.length := HT4.out.1.to_; have := HL.out; omega) W' hg)
      have yt : W4.cell? ⟨w.heap.size + 2, 8, none⟩ = some (.int .i64 tt2) := HPS4.out.tb.cell 8 _ rfl
      have hszA := HPS4.out.size
      go_wp2_with fail
      refine (HNX.out _ HPS4.out.gg).mono ?_
      rintro rn Wn ⟨rfl, hbn⟩
      have HPSn := Keep.mk (HPS4.out.below hbn)
      obtain ⟨t5, htn⟩ : ∃ t, nextT s.data.toList tt2 = t := ⟨_, rfl⟩
      rw [htn]
      have HN5 := Keep.mk htn
      have HT5 := Keep.mk (by have h := next_tokF s.data.toList tt2 HT4.out.1.to_; rw [htn] at h; exact h)
      clear htn hbn hszA HPS4 HNX yt
      have q0 := HPSn.out.tb.froz 0
      have q1 := HPSn.out.tb.froz 1
      have q2 := HPSn.out.tb.froz 2
      have q3 := HPSn.out.tb.froz 3
      have q4 := HPSn.out.tb.froz 4
      have q5 := HPSn.out.tb.froz 5
      have q6 := HPSn.out.tb.froz 6
      have q7 := HPSn.out.tb.froz 7
      have q8 := HPSn.out.tb.froz 8
      have q9 := HPSn.out.tb.froz 9
      have y0 := HPSn.out.tb.cell 0 _ rfl
      have y1 := HPSn.out.tb.cell 1 _ rfl
      have y2 := HPSn.out.tb.cell 2 _ rfl
      have y3 := HPSn.out.tb.cell 3 _ rfl
      have y4 := HPSn.out.tb.cell 4 _ rfl
      have y5 := HPSn.out.tb.cell 5 _ rfl
      have y6 := HPSn.out.tb.cell 6 _ rfl
      have y7 := HPSn.out.tb.cell 7 _ rfl
      have y8 := HPSn.out.tb.cell 8 _ rfl
      have y9 := HPSn.out.tb.cell 9 _ rfl
      have hsn := HPSn.out.size
      simp only [tokC]
      go_wp2
      go_step3
      have hk1 : ta + 1 + ts.size ≤ tt := HT.out.wt rfl (show (0 : Nat) ≠ 255 by decide)
      have hk2 : tt ≤ ta2 := HT4.out.2
      have hk3 : ta2 + 1 + ts2.size ≤ tt2 := HT4.out.1.wt rfl (show (58 : Nat) ≠ 255 by decide)
      have hk4 := HT5.out.2
      have hk5 := HT5.out.1.at_
      try simp only [Exit.then]
      refine outBy_goto (by simp [four]) ⟨f, Nat.lt_succ_self f, FrameP.mk .., _, v, t5, _, sv, _, HBG.out, HPSn.out.tok t5, ⟨_, _, _, _, _, _, _, _, _, _, rfl⟩, (key_go _ _ _ _ _ _ _ _ HN4.out rfl rfl rfl rfl rfl).symm.trans HRUN.out |> (fun h => by rw [← HN5.out]; exact h), ?_, ⟨tt2, HT4.out.1.to_, HN5.out.symm⟩, HLN.out, ?_, (fun h => by cases h), (fun h => by rcases h with h | h <;> cases h), (fun h => by cases h)⟩
      · have h1 := HFU.out
        simp only [wantP, phL] at h1 ⊢
        omega
      · have h1 : weighS (o :: st) + 0 ≤ ta := HWT.out
        have h2 : weighS (o :: st) = 1 + keysN o.keys + sizeL o.list + weighS st := rfl
        show 1 + keysN (o.keys ++ [ts]) + sizeL o.list + weighS st + 0 ≤ t5.at_
        rw [keysN_snoc]
        omega
end Go.Proofs.YtbngjlkmpdccjaaGreatDoor
namespace Go.Proofs.YtbngjlkmpdccjaaGreatDoor
open Go Go.RowKit Go.Proofs Th
attribute [local go_sem] Above.cell
set_option maxRecDepth 100000 in
set_option maxHeartbeats 8000000 in
theorem parse_pass2 (s : ByteArray) (hs : s.size ≤ 100000000) (w : World) (RV : JV × Nat × Int) : ∀ n a W, JP s RV w n 2 a W → (tailP 2).wp Tryz.prog (outP s RV w n) a W := by
  have HL := Keep.mk (show s.data.toList.length = s.size from Array.length_toList ..)
  rintro n a W ⟨hF, st, v, t, rs, sv, cs, H⟩
  refine pass_of (l := 2) rfl ?_
  · 
    obtain ⟨u1, u3, u4, u7, u8, u9, u10, u11, u12, u13, u14, u15, u16, u17, u18, u19, u20, u21, u22, u23, u24, u25, u26, u27, u28, u29, u30, u31, u32, u33, u34, u35, u36, u37, u38, u39, u40, u41, u42, u43, u44, u45, u46, u47, u48, u49, u50, u51, u52, u53, u54, u55, u56, u57, u58, u59, u60, u61, u62, u63, u64, u65, u66, u67, u68, u69, u70, u71, u72, u73, u74, u75, u76, u77, u78, u79, u80, u81, u82, u83, u84, u85, u86, u87, u88, u89, u90, u91, u92, u93, u94, u95, u96, u97, u98, u99, u100, u101, u102, u103, u104, u105, u106, u107, u108, u109, u110, u111, u112, u113, u114, u115, u116, u117, u118, u119, u120, u121, u122, u123, u124, u125, u126, u127, u128, u129, u130, u131, u132, u133, u134, u135, u136, u137, u138, u139, u140, u141, u142, u143, u144, u145, u146, u147, u148, u149, u150, u151, u152, u153, u154, u155, u156, u157, u158, u159, u160, u161, u162, u163, u164, u165, u166, u167, u168, u169, u170, u171, u172, u173, u174, u175, u176, u177, u178, u179, u180, u181, u182, u183, u184, u185, u186, u187, u188, u189, u190, u191, u192, u193, u194, u195, u196, u197, u198, u199, u200, u201, u202, u203, u204, u205, u206, u207, u208, u209, u210, u211, u212, u213, u214, u215, u216, u217, u218, u219, u220, u221, u222, u223, u224, u225, u226, u227, u228, u229, u230, u231, u232, u233, u234, u235, u236, u237, u238, u239, u240, u241, u242, u243, u244, u245, u246, u247, u248, u249⟩ := hF
    obtain ⟨k9, m9, e9, s9, A9, n9, c9, A8, n8, c8, rfl⟩ := H.six
    have HT := Keep.mk H.tokF
    obtain ⟨sg, k, m, x, ts, ta, tt, te⟩ := t
    obtain ⟨f, rfl⟩ := fuel_pos H.fuel
    obtain ⟨o, st, k0, kv, lv, rs, rfl, rfl⟩ := rows_cons (H.top (Or.inr rfl)) H.ps.rows.len
    have hk0 : k0 = o.kind := H.ps.rows.1.k
    subst hk0
    obtain ⟨A1, c1, e1, _, _⟩ := H.ps.rows.1.kk.form
    obtain ⟨A2, c2, e2, _, _⟩ := H.ps.rows.1.vv.form
    have e1 : kv = _ := e1
    have e2 : lv = _ := e2
    subst e1 e2
    have HWT := Keep.mk H.wt
    have HBG := Keep.mk H.big
    have HLN := Keep.mk H.len
    have HFU := Keep.mk H.fuel
    have HRUN := Keep.mk H.run
    have HSH := Keep.mk (H.sh rfl)
    have HPS := Keep.mk H.ps
    have hlen := H.ps.rows.len
    have hrl : rs.length ≤ 48 := by have := H.len; simp only [List.length_cons] at hlen this; omega
    have hwk : 1 + keysN o.keys + sizeL o.list ≤ 16384 := by
      have h1 : weighS (o :: st) + 0 ≤ ta := H.wt
      have h2 : weighS (o :: st) = 1 + keysN o.keys + sizeL o.list + weighS st := rfl
      have h3 : ta ≤ _ := HT.out.at_
      have := H.big
      omega
    have hkn := keysN_len o.keys
    have hln := sizeL_len o.list
    have HPOP := Keep.mk (stack_pop (w.heap.size + 1) sv rs.reverse o.kind A1 _ c1 A2 _ c2 (w.heap.size + 3) W H.ps.s (by have h := H.ps.o; rwa [List.reverse_cons] at h) (by simp; omega) (by omega) H.ps.size)
    clear H hlen
    go_wp2_with fail
    refine HPOP.out.mono ?_
    rintro r W1 ⟨rfl, sv1, hs1, hO1, hT1, hn1⟩
    obtain ⟨HPS1, _, _, hK1, hV1⟩ := HPS.out.pop hT1 hs1 hO1 hn1 (by omega) (by omega)
    have HMD := Keep.mk (read_made o.kind o.keys o.list A1 c1 A2 c2 _ (by omega) W1 HPS1.gg (fun b hb => hb.hi) hK1 hV1)
    replace HPS1 := Keep.mk HPS1
    clear hs1 hO1 hT1 hn1 hK1 hV1 HPOP HPS
    go_wp2_with fail
    refine HMD.out.mono ?_
    rintro r W2 ⟨cs2, rfl, hJ2, hb2⟩
    obtain ⟨k7, m7, e7, s7, A7, n7, c7, A6, n6, c6, rfl⟩ := hJ2.cells
    have HPS2 := Keep.mk (HPS1.out.below hb2)
    have HJ2 := Keep.mk (hJ2.more (T := Still W2 (w.heap.size + 3) sv1 rs) (fun b hb => hb.elim (fun h => h.up hb2) (fun h => HPS1.out.new_still h)))
    have HPS3 := Keep.mk (HPS2.out.val rfl (.int .i64 k7) (.int .i64 m7) (.int .i64 e7) (.string s7) (.slice A7 n7 c7) (.slice A6 n6 c6))
    have HJ3 := Keep.mk ((low_six (w := w) (W := W2) (.int .i64 k7) (.int .i64 m7) (.int .i64 e7) (.string s7) (.slice A7 n7 c7) (.slice A6 n6 c6)).jin HJ2.out)
    clear hJ2 hb2 HMD HPS1 HJ2

    have r0 := HPS2.out.v.box.cell 0 _ rfl
    have r1 := HPS2.out.v.box.cell 1 _ rfl
    have r2 := HPS2.out.v.box.cell 2 _ rfl
    have r3 := HPS2.out.v.box.cell 3 _ rfl
    have r4 := HPS2.out.v.box.cell 4 _ rfl
    have r5 := HPS2.out.v.box.cell 5 _ rfl
    have z0 := HPS2.out.v.box.froz 0
    have z1 := HPS2.out.v.box.froz 1
    have z2 := HPS2.out.v.box.froz 2
    have z3 := HPS2.out.v.box.froz 3
    have z4 := HPS2.out.v.box.froz 4
    have z5 := HPS2.out.v.box.froz 5
    have hsz := HPS2.out.size
    simp only [cells6]
    go_upto_region 47 with fail
    refine wp_world (fun W => PS w W st rs sv1 ⟨sg, k, m, x, ts, ta, tt, te⟩ (cells6 k7 m7 e7 s7 A7 n7 c7 A6 n6 c6) ∧ JIn W (Still W (w.heap.size + 3) sv1 rs) (madeJ ⟨o.kind, o.keys, o.list⟩) (cells6 k7 m7 e7 s7 A7 n7 c7 A6 n6 c6)) ⟨HPS3.out, HJ3.out⟩ ?_
    clear r0 r1 r2 r3 r4 r5 z0 z1 z2 z3 z4 z5 hsz HPS2 HPS3 HJ3
    rintro W4 ⟨HPS4, HJ4⟩
    replace HPS4 := Keep.mk HPS4
    replace HJ4 := Keep.mk HJ4
    have HNX := Keep.mk (fun (W' : World) (hg : GlobV W') => read_next s hs tt (by have h2 : tt ≤ s.data.toList.length := HT.out.to_; have := HL.out; omega) W' hg)
    have yt : W4.cell? ⟨w.heap.size + 2, 8, none⟩ = some (.int .i64 tt) := HPS4.out.tb.cell 8 _ rfl
    have hszA := HPS4.out.size
    go_wp2_with fail
    refine (HNX.out _ HPS4.out.gg).mono ?_
    rintro rn Wn ⟨rfl, hbn⟩
    have HPSn := Keep.mk (HPS4.out.below hbn)
    obtain ⟨t5, htn⟩ : ∃ t, nextT s.data.toList tt = t := ⟨_, rfl⟩
    rw [htn]
    have HN5 := Keep.mk htn
    have HT5 := Keep.mk (by have h := next_tokF s.data.toList tt HT.out.to_; rw [htn] at h; exact h)
    have HJn := Keep.mk (Still.jin hbn HJ4.out)
    clear htn hbn hszA HPS4 HNX yt
    have q0 := HPSn.out.tb.froz 0
    have q1 := HPSn.out.tb.froz 1
    have q2 := HPSn.out.tb.froz 2
    have q3 := HPSn.out.tb.froz 3
    have q4 := HPSn.out.tb.froz 4
    have q5 := HPSn.out.tb.froz 5
    have q6 := HPSn.out.tb.froz 6
    have q7 := HPSn.out.tb.froz 7
    have q8 := HPSn.out.tb.froz 8
    have q9 := HPSn.out.tb.froz 9
    have y0 := HPSn.out.tb.cell 0 _ rfl
    have y1 := HPSn.out.tb.cell 1 _ rfl
    have y2 := HPSn.out.tb.cell 2 _ rfl
    have y3 := HPSn.out.tb.cell 3 _ rfl
    have y4 := HPSn.out.tb.cell 4 _ rfl
    have y5 := HPSn.out.tb.cell 5 _ rfl
    have y6 := HPSn.out.tb.cell 6 _ rfl
    have y7 := HPSn.out.tb.cell 7 _ rfl
    have y8 := HPSn.out.tb.cell 8 _ rfl
    have y9 := HPSn.out.tb.cell 9 _ rfl
    have hsn := HPSn.out.size
    simp only [tokC]
    go_wp2
    go_step3
    try simp only [Exit.then, Exit.inBlock]
    have hk1 : ta + 1 + ts.size ≤ tt := HT.out.wt HSH.out.1 HSH.out.2
    have hk4 := HT5.out.2
    have hk5 := HT5.out.1.at_
    refine outBy_goto (by simp [four]) ⟨f, Nat.lt_succ_self f, FrameP.mk .., _, _, t5, _, sv1, _, HBG.out, HPSn.out.tok t5, ⟨_, _, _, _, _, _, _, _, _, _, rfl⟩, ((end_go _ _ _ _ _ _ _ _ HN5.out).symm.trans HRUN.out), ?_, ⟨tt, HT.out.to_, HN5.out.symm⟩, ?_, ?_, (fun _ => (low_ten t5).jin HJn.out), (fun h => by rcases h with h | h <;> cases h), (fun h => by cases h)⟩
    · have h1 := HFU.out
      simp only [wantP, phL] at h1 ⊢
      omega
    · have := HLN.out
      simp only [List.length_cons] at this
      omega
    · have h1 : weighS (o :: st) + 0 ≤ ta := HWT.out
      have h2 : weighS (o :: st) = weighO o + weighS st := rfl
      have h3 := madeJ_size o
      show weighS st + sizeJ (madeJ o) ≤ t5.at_
      omega
end Go.Proofs.YtbngjlkmpdccjaaGreatDoor
