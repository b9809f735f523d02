/- Lemmas and contracts for the laws ReadParses, ReadBytes, part 37 of 50: ReadP0. Conditions: those that each lemma names. -/
import Derived.Test.YtbngjlkmpdccjaaGreatDoorPack36
import Derived.Outline
namespace Go.Proofs.YtbngjlkmpdccjaaGreatDoor
open Go Go.RowKit Go.Proofs Th
attribute [local go_sem] Above.cell
set_option maxRecDepth 100000 in
set_option maxHeartbeats 8000000 in
theorem parse_pass0 (s : ByteArray) (hs : s.size ≤ 100000000) (w : World) (RV : JV × Nat × Int) : ∀ n a W, JP s RV w n 0 a W → (tailP 0).wp Tryz.prog (outP s RV w n) a W := by
  have HL := Keep.mk (show s.data.toList.length = s.size from Array.length_toList ..)
  rintro n a W ⟨hF, st, v, t, rs, sv, cs, H⟩
  refine pass_of (l := 0) rfl ?_
  · 
    obtain ⟨u1, u3, u4, u7, u8, u9, u10, u11, u12, u13, u14, u15, u16, u17, u18, u19, u20, u21, u22, u23, u24, u25, u26, u27, u28, u29, u30, u31, u32, u33, u34, u35, u36, u37, u38, u39, u40, u41, u42, u43, u44, u45, u46, u47, u48, u49, u50, u51, u52, u53, u54, u55, u56, u57, u58, u59, u60, u61, u62, u63, u64, u65, u66, u67, u68, u69, u70, u71, u72, u73, u74, u75, u76, u77, u78, u79, u80, u81, u82, u83, u84, u85, u86, u87, u88, u89, u90, u91, u92, u93, u94, u95, u96, u97, u98, u99, u100, u101, u102, u103, u104, u105, u106, u107, u108, u109, u110, u111, u112, u113, u114, u115, u116, u117, u118, u119, u120, u121, u122, u123, u124, u125, u126, u127, u128, u129, u130, u131, u132, u133, u134, u135, u136, u137, u138, u139, u140, u141, u142, u143, u144, u145, u146, u147, u148, u149, u150, u151, u152, u153, u154, u155, u156, u157, u158, u159, u160, u161, u162, u163, u164, u165, u166, u167, u168, u169, u170, u171, u172, u173, u174, u175, u176, u177, u178, u179, u180, u181, u182, u183, u184, u185, u186, u187, u188, u189, u190, u191, u192, u193, u194, u195, u196, u197, u198, u199, u200, u201, u202, u203, u204, u205, u206, u207, u208, u209, u210, u211, u212, u213, u214, u215, u216, u217, u218, u219, u220, u221, u222, u223, u224, u225, u226, u227, u228, u229, u230, u231, u232, u233, u234, u235, u236, u237, u238, u239, u240, u241, u242, u243, u244, u245, u246, u247, u248, u249⟩ := hF
    obtain ⟨k9, m9, e9, s9, A9, n9, c9, A8, n8, c8, rfl⟩ := H.six
    have HT := Keep.mk H.tokF
    obtain ⟨sg, k, m, x, ts, ta, tt, te⟩ := t
    obtain ⟨f, rfl⟩ := fuel_pos H.fuel
    have HPS := Keep.mk H.ps
    replace H := Keep.mk H
    by_cases he : te = 0
    case neg =>
      have b1 : (te != 0) = true := by simpa using he
      have HE := Keep.mk (H.out.run.symm.trans (off_err _ _ _ _ _ _ (by simpa using he)))
      clear H he
      have r0 := HPS.out.v.box.cell 0 _ rfl
      have r1 := HPS.out.v.box.cell 1 _ rfl
      have r2 := HPS.out.v.box.cell 2 _ rfl
      have r3 := HPS.out.v.box.cell 3 _ rfl
      have r4 := HPS.out.v.box.cell 4 _ rfl
      have r5 := HPS.out.v.box.cell 5 _ rfl
      have z0 := HPS.out.v.box.froz 0
      have z1 := HPS.out.v.box.froz 1
      have z2 := HPS.out.v.box.froz 2
      have z3 := HPS.out.v.box.froz 3
      have z4 := HPS.out.v.box.froz 4
      have z5 := HPS.out.v.box.froz 5
      have hsz := HPS.out.size
      have y0 : W.cell? ⟨w.heap.size + 2, 0, none⟩ = some (.int .u8 sg) := HPS.out.tb.cell 0 _ rfl
      have y1 : W.cell? ⟨w.heap.size + 2, 1, none⟩ = some (.int .i64 k) := HPS.out.tb.cell 1 _ rfl
      have y2 : W.cell? ⟨w.heap.size + 2, 2, none⟩ = some (.int .i64 m) := HPS.out.tb.cell 2 _ rfl
      have y3 : W.cell? ⟨w.heap.size + 2, 3, none⟩ = some (.int .i64 x) := HPS.out.tb.cell 3 _ rfl
      have y4 : W.cell? ⟨w.heap.size + 2, 4, none⟩ = some (.string ts) := HPS.out.tb.cell 4 _ rfl
      have y5 : W.cell? ⟨w.heap.size + 2, 5, none⟩ = some (.slice none 0 0) := HPS.out.tb.cell 5 _ rfl
      have y6 : W.cell? ⟨w.heap.size + 2, 6, none⟩ = some (.slice none 0 0) := HPS.out.tb.cell 6 _ rfl
      have y7 : W.cell? ⟨w.heap.size + 2, 7, none⟩ = some (.int .i64 ta) := HPS.out.tb.cell 7 _ rfl
      have y8 : W.cell? ⟨w.heap.size + 2, 8, none⟩ = some (.int .i64 tt) := HPS.out.tb.cell 8 _ rfl
      have y9 : W.cell? ⟨w.heap.size + 2, 9, none⟩ = some (.int .i64 te) := HPS.out.tb.cell 9 _ rfl
      have q0 := HPS.out.tb.froz 0
      have q1 := HPS.out.tb.froz 1
      have q2 := HPS.out.tb.froz 2
      have q3 := HPS.out.tb.froz 3
      have q4 := HPS.out.tb.froz 4
      have q5 := HPS.out.tb.froz 5
      have q6 := HPS.out.tb.froz 6
      have q7 := HPS.out.tb.froz 7
      have q8 := HPS.out.tb.froz 8
      have q9 := HPS.out.tb.froz 9
      go_wp2_with fail
      clear r0 r1 r2 r3 r4 r5 z0 z1 z2 z3 z4 z5 y0 y1 y2 y3 y4 y5 y6 y7 y8 y9 q0 q1 q2 q3 q4 q5 q6 q7 q8 q9 hsz 
      refine wp_region_every (ErrI w ⟨sg, k, m, x, ts, ta, tt, te⟩ (cells6 k9 m9 e9 s9 A9 n9 c9 A8 n8 c8) 5) (fun
        | 0 => fun v _ => v = .agg (List.toArray zero6)
        | 1 => fun v _ => v = .pointer (some ⟨w.heap.size + 2, 7, none⟩)
        | 2 => fun v _ => v = .int .i64 ta
        | 3 => fun v _ => v = .pointer (some ⟨w.heap.size + 2, 9, none⟩)
        | 4 => fun v _ => v = .int .i64 te
        | 5 => fun v _ => True
        | 6 => fun v _ => v = .int .i64 ta
        | 7 => fun v _ => v = .int .i64 te
        | _ => fun _ _ => True) (fun _ _ _ => True) (by kernel_rfl) (by kernel_rfl) (ErrI.new HPS.out) ?_ ?_ ?_
      · intro i j v w1 w2 _ _
        match j with
        | 0 | 1 | 2 | 3 | 4 | 5 | 6 | 7 => exact fun h => h
        | _ + 8 => exact fun h => h
      · simp only [stepHold]
        refine ⟨?_, ?_, ?_, ?_, ?_, ?_, ?_, ?_, trivial⟩
        · intro L a wa hL hI hs hd
          exact op_val _ (w' := wa) (by unfold execOp; go_simp; rfl) ⟨_, rfl, rfl, hI.step (by decide), trivial⟩
        · intro L a wa hL hI hs hd
          have e1 : a.eval (.tmp 6) = .pointer (some ⟨w.heap.size + 2, 0, none⟩) := hs 6 (by kernel_rfl)
          exact op_val _ (w' := wa) (by unfold execOp; simp only [e1]; go_simp) ⟨_, rfl, rfl, hI.step (by decide), trivial⟩
        · intro L a wa hL hI hs hd
          have e1 : a.eval (.tmp 164) = .pointer (some ⟨w.heap.size + 2, 7, none⟩) := hd.1
          have c0 : wa.cell? ⟨w.heap.size + 2, 7, none⟩ = some (.int .i64 ta) := hI.t.cell 7 _ rfl
          have hl := hI.t.lt
          exact op_val _ (w' := wa) (by unfold execOp; simp only [e1]; go_simp) ⟨_, rfl, rfl, hI.step (by decide), trivial⟩
        · intro L a wa hL hI hs hd
          have e1 : a.eval (.tmp 6) = .pointer (some ⟨w.heap.size + 2, 0, none⟩) := hs 6 (by kernel_rfl)
          exact op_val _ (w' := wa) (by unfold execOp; simp only [e1]; go_simp) ⟨_, rfl, rfl, hI.step (by decide), trivial⟩
        · intro L a wa hL hI hs hd
          have e1 : a.eval (.tmp 166) = .pointer (some ⟨w.heap.size + 2, 9, none⟩) := hd.1
          have c0 : wa.cell? ⟨w.heap.size + 2, 9, none⟩ = some (.int .i64 te) := hI.t.cell 9 _ rfl
          have hl := hI.t.lt
          exact op_val _ (w' := wa) (by unfold execOp; simp only [e1]; go_simp) ⟨_, rfl, rfl, hI.step (by decide), trivial⟩
        · intro L a wa hL hI hs hd
          have e1 : a.eval (.tmp 2) = .pointer (some ⟨w.heap.size, 0, none⟩) := hs 2 (by kernel_rfl)
          have e2 : a.eval (.tmp 163) = .agg (List.toArray zero6) := hd.1
          have hb := (hI.v0 hL).box
          have z0 := hb.froz 0
          have z1 := hb.froz 1
          have z2 := hb.froz 2
          have z3 := hb.froz 3
          have z4 := hb.froz 4
          have z5 := hb.froz 5
          have c0 := hb.cell 0 _ rfl
          have c1 := hb.cell 1 _ rfl
          have c2 := hb.cell 2 _ rfl
          have c3 := hb.cell 3 _ rfl
          have c4 := hb.cell 4 _ rfl
          have c5 := hb.cell 5 _ rfl
          have hl := hb.lt
          exact op_skip (w' := six wa w.heap.size (.int .i64 0) (.int .i64 0) (.int .i64 0) (.string ⟨#[]⟩) (.slice none 0 0) (.slice none 0 0)) (by unfold execOp; simp only [e1, e2, zero6, cells6]; go_simp; rfl) ⟨undef, rfl, trivial, hI.put hL, trivial⟩
        · intro L a wa hL hI hs hd
          have e1 : a.eval (.tmp 165) = .int .i64 ta := hd.1
          exact op_val _ (w' := wa) (by unfold execOp; simp only [e1]; go_simp) ⟨_, rfl, rfl, hI.step (by decide), trivial⟩
        · intro L a wa hL hI hs hd
          have e1 : a.eval (.tmp 167) = .int .i64 te := hd.1
          exact op_val _ (w' := wa) (by unfold execOp; simp only [e1]; go_simp) ⟨_, rfl, rfl, hI.step (by decide), trivial⟩
      · intro vs L W2 hL hI hall
        simp only [allHold, gives] at hall
        obtain ⟨h0, h1, h2, h3, h4, h5, h6, h7, _⟩ := hall
        simp only [putL]
        generalize vs 0 = v0 at *
        generalize vs 1 = v1 at *
        generalize vs 2 = v2 at *
        generalize vs 3 = v3 at *
        generalize vs 4 = v4 at *
        generalize vs 5 = v5 at *
        generalize vs 6 = v6 at *
        generalize vs 7 = v7 at *
        subst v0 v1 v2 v3 v4 v6 v7
        have HVB := Keep.mk (hI.v1 (hL 5 (by decide)))
        have HBE := Keep.mk hI.b
        have r0 := HVB.out.box.cell 0 _ rfl
        have r1 := HVB.out.box.cell 1 _ rfl
        have r2 := HVB.out.box.cell 2 _ rfl
        have r3 := HVB.out.box.cell 3 _ rfl
        have r4 := HVB.out.box.cell 4 _ rfl
        have r5 := HVB.out.box.cell 5 _ rfl
        clear hI hL HPS
        go_wp2
        rw [outP_ret]
        refine bodyPost_ret (v := .tuple #[.agg (List.toArray zero6), .int .i64 ta, .int .i64 te]) ?_ rfl ⟨zero6, by rw [HE.out], by rw [HE.out]; exact zero_in _ _, HBE.out⟩
        simp [zero6, cells6, results, Tryz.results6, go_sem, r0, r1, r2, r3, r4, r5]
    case pos =>
    subst he
    by_cases hst : st = []
    case pos =>
      subst hst
      have hrs : rs = [] := List.eq_nil_of_length_eq_zero H.out.ps.rows.len
      subst hrs
      obtain ⟨A5, c5, e5, _, _⟩ := H.out.ps.o.form
      have e5 : sv = .slice A5 0 c5 := e5
      subst e5
      have s0 : W.cell? ⟨w.heap.size + 1, 0, none⟩ = some (.slice A5 0 c5) := cell_of_one HPS.out.s
      by_cases h255 : sg = 255
      case pos =>
        subst h255
        have HE := Keep.mk (H.out.run.symm.trans (off_end _ _ _ _ _ rfl rfl))
        have HJ := Keep.mk ((low_six (w := w) (W := W) (.int .i64 k9) (.int .i64 m9) (.int .i64 e9) (.string s9) (.slice A9 n9 c9) (.slice A8 n8 c8)).jin (H.out.off rfl))
        have HBE := Keep.mk (H.out.ps.b.trans (six_below W w.heap.size (.int .i64 k9) (.int .i64 m9) (.int .i64 e9) (.string s9) (.slice A9 n9 c9) (.slice A8 n8 c8) (Nat.le_refl _)))
        clear H
        have r0 := HPS.out.v.box.cell 0 _ rfl
        have r1 := HPS.out.v.box.cell 1 _ rfl
        have r2 := HPS.out.v.box.cell 2 _ rfl
        have r3 := HPS.out.v.box.cell 3 _ rfl
        have r4 := HPS.out.v.box.cell 4 _ rfl
        have r5 := HPS.out.v.box.cell 5 _ rfl
        have z0 := HPS.out.v.box.froz 0
        have z1 := HPS.out.v.box.froz 1
        have z2 := HPS.out.v.box.froz 2
        have z3 := HPS.out.v.box.froz 3
        have z4 := HPS.out.v.box.froz 4
        have z5 := HPS.out.v.box.froz 5
        have hsz := HPS.out.size
        have y0 : W.cell? ⟨w.heap.size + 2, 0, none⟩ = some (.int .u8 255) := HPS.out.tb.cell 0 _ rfl
        have y1 : W.cell? ⟨w.heap.size + 2, 1, none⟩ = some (.int .i64 k) := HPS.out.tb.cell 1 _ rfl
        have y2 : W.cell? ⟨w.heap.size + 2, 2, none⟩ = some (.int .i64 m) := HPS.out.tb.cell 2 _ rfl
        have y3 : W.cell? ⟨w.heap.size + 2, 3, none⟩ = some (.int .i64 x) := HPS.out.tb.cell 3 _ rfl
        have y4 : W.cell? ⟨w.heap.size + 2, 4, none⟩ = some (.string ts) := HPS.out.tb.cell 4 _ rfl
        have y5 : W.cell? ⟨w.heap.size + 2, 5, none⟩ = some (.slice none 0 0) := HPS.out.tb.cell 5 _ rfl
        have y6 : W.cell? ⟨w.heap.size + 2, 6, none⟩ = some (.slice none 0 0) := HPS.out.tb.cell 6 _ rfl
        have y7 : W.cell? ⟨w.heap.size + 2, 7, none⟩ = some (.int .i64 ta) := HPS.out.tb.cell 7 _ rfl
        have y8 : W.cell? ⟨w.heap.size + 2, 8, none⟩ = some (.int .i64 tt) := HPS.out.tb.cell 8 _ rfl
        have y9 : W.cell? ⟨w.heap.size + 2, 9, none⟩ = some (.int .i64 0) := HPS.out.tb.cell 9 _ rfl
        have q0 := HPS.out.tb.froz 0
        have q1 := HPS.out.tb.froz 1
        have q2 := HPS.out.tb.froz 2
        have q3 := HPS.out.tb.froz 3
        have q4 := HPS.out.tb.froz 4
        have q5 := HPS.out.tb.froz 5
        have q6 := HPS.out.tb.froz 6
        have q7 := HPS.out.tb.froz 7
        have q8 := HPS.out.tb.froz 8
        have q9 := HPS.out.tb.froz 9
        clear HPS
        go_wp2
        rw [outP_ret]
        refine bodyPost_ret (v := .tuple #[.agg (List.toArray (cells6 k9 m9 e9 s9 A9 n9 c9 A8 n8 c8)), .int .i64 0, .int .i64 0]) ?_ rfl ⟨_, by rw [HE.out]; rfl, by rw [HE.out]; exact HJ.out.more (fun b hb => ⟨by have := hb.lo; omega, hb.hi⟩), HBE.out⟩
        simp [cells6, results, Tryz.results6, go_sem, r0, r1, r2, r3, r4, r5]
      case neg =>
        have b2 : ((sg : Int) == 255) = false := by simp; omega
        have HE := Keep.mk (H.out.run.symm.trans (off_more _ _ _ _ _ rfl h255))
        clear H h255
        have r0 := HPS.out.v.box.cell 0 _ rfl
        have r1 := HPS.out.v.box.cell 1 _ rfl
        have r2 := HPS.out.v.box.cell 2 _ rfl
        have r3 := HPS.out.v.box.cell 3 _ rfl
        have r4 := HPS.out.v.box.cell 4 _ rfl
        have r5 := HPS.out.v.box.cell 5 _ rfl
        have z0 := HPS.out.v.box.froz 0
        have z1 := HPS.out.v.box.froz 1
        have z2 := HPS.out.v.box.froz 2
        have z3 := HPS.out.v.box.froz 3
        have z4 := HPS.out.v.box.froz 4
        have z5 := HPS.out.v.box.froz 5
        have hsz := HPS.out.size
        have y0 : W.cell? ⟨w.heap.size + 2, 0, none⟩ = some (.int .u8 sg) := HPS.out.tb.cell 0 _ rfl
        have y1 : W.cell? ⟨w.heap.size + 2, 1, none⟩ = some (.int .i64 k) := HPS.out.tb.cell 1 _ rfl
        have y2 : W.cell? ⟨w.heap.size + 2, 2, none⟩ = some (.int .i64 m) := HPS.out.tb.cell 2 _ rfl
        have y3 : W.cell? ⟨w.heap.size + 2, 3, none⟩ = some (.int .i64 x) := HPS.out.tb.cell 3 _ rfl
        have y4 : W.cell? ⟨w.heap.size + 2, 4, none⟩ = some (.string ts) := HPS.out.tb.cell 4 _ rfl
        have y5 : W.cell? ⟨w.heap.size + 2, 5, none⟩ = some (.slice none 0 0) := HPS.out.tb.cell 5 _ rfl
        have y6 : W.cell? ⟨w.heap.size + 2, 6, none⟩ = some (.slice none 0 0) := HPS.out.tb.cell 6 _ rfl
        have y7 : W.cell? ⟨w.heap.size + 2, 7, none⟩ = some (.int .i64 ta) := HPS.out.tb.cell 7 _ rfl
        have y8 : W.cell? ⟨w.heap.size + 2, 8, none⟩ = some (.int .i64 tt) := HPS.out.tb.cell 8 _ rfl
        have y9 : W.cell? ⟨w.heap.size + 2, 9, none⟩ = some (.int .i64 0) := HPS.out.tb.cell 9 _ rfl
        have q0 := HPS.out.tb.froz 0
        have q1 := HPS.out.tb.froz 1
        have q2 := HPS.out.tb.froz 2
        have q3 := HPS.out.tb.froz 3
        have q4 := HPS.out.tb.froz 4
        have q5 := HPS.out.tb.froz 5
        have q6 := HPS.out.tb.froz 6
        have q7 := HPS.out.tb.froz 7
        have q8 := HPS.out.tb.froz 8
        have q9 := HPS.out.tb.froz 9
        go_wp2_with fail
        clear r0 r1 r2 r3 r4 r5 z0 z1 z2 z3 z4 z5 y0 y1 y2 y3 y4 y5 y6 y7 y8 y9 q0 q1 q2 q3 q4 q5 q6 q7 q8 q9 hsz 
        refine wp_region_every (ErrI w ⟨sg, k, m, x, ts, ta, tt, 0⟩ (cells6 k9 m9 e9 s9 A9 n9 c9 A8 n8 c8) 3) (fun
          | 0 => fun v _ => v = .agg (List.toArray zero6)
          | 1 => fun v _ => v = .pointer (some ⟨w.heap.size + 2, 7, none⟩)
          | 2 => fun v _ => v = .int .i64 ta
          | 3 => fun v _ => True
          | 4 => fun v _ => v = .int .i64 ta
          | 5 => fun v _ => v = .int .i64 60
          | _ => fun _ _ => True) (fun _ _ _ => True) (by kernel_rfl) (by kernel_rfl) (ErrI.new HPS.out) ?_ ?_ ?_
        · intro i j v w1 w2 _ _
          match j with
          | 0 | 1 | 2 | 3 | 4 | 5 => exact fun h => h
          | _ + 6 => exact fun h => h
        · simp only [stepHold]
          refine ⟨?_, ?_, ?_, ?_, ?_, ?_, trivial⟩
          · intro L a wa hL hI hs hd
            exact op_val _ (w' := wa) (by unfold execOp; go_simp; rfl) ⟨_, rfl, rfl, hI.step (by decide), trivial⟩
          · intro L a wa hL hI hs hd
            have e1 : a.eval (.tmp 6) = .pointer (some ⟨w.heap.size + 2, 0, none⟩) := hs 6 (by kernel_rfl)
            exact op_val _ (w' := wa) (by unfold execOp; simp only [e1]; go_simp) ⟨_, rfl, rfl, hI.step (by decide), trivial⟩
          · intro L a wa hL hI hs hd
            have e1 : a.eval (.tmp 185) = .pointer (some ⟨w.heap.size + 2, 7, none⟩) := hd.1
            have c0 : wa.cell? ⟨w.heap.size + 2, 7, none⟩ = some (.int .i64 ta) := hI.t.cell 7 _ rfl
            have hl := hI.t.lt
            exact op_val _ (w' := wa) (by unfold execOp; simp only [e1]; go_simp) ⟨_, rfl, rfl, hI.step (by decide), trivial⟩
          · intro L a wa hL hI hs hd
            have e1 : a.eval (.tmp 2) = .pointer (some ⟨w.heap.size, 0, none⟩) := hs 2 (by kernel_rfl)
            have e2 : a.eval (.tmp 184) = .agg (List.toArray zero6) := hd.1
            have hb := (hI.v0 hL).box
            have z0 := hb.froz 0
            have z1 := hb.froz 1
            have z2 := hb.froz 2
            have z3 := hb.froz 3
            have z4 := hb.froz 4
            have z5 := hb.froz 5
            have c0 := hb.cell 0 _ rfl
            have c1 := hb.cell 1 _ rfl
            have c2 := hb.cell 2 _ rfl
            have c3 := hb.cell 3 _ rfl
            have c4 := hb.cell 4 _ rfl
            have c5 := hb.cell 5 _ rfl
            have hl := hb.lt
            exact op_skip (w' := six wa w.heap.size (.int .i64 0) (.int .i64 0) (.int .i64 0) (.string ⟨#[]⟩) (.slice none 0 0) (.slice none 0 0)) (by unfold execOp; simp only [e1, e2, zero6, cells6]; go_simp; rfl) ⟨undef, rfl, trivial, hI.put hL, trivial⟩
          · intro L a wa hL hI hs hd
            have e1 : a.eval (.tmp 186) = .int .i64 ta := hd.1
            exact op_val _ (w' := wa) (by unfold execOp; simp only [e1]; go_simp) ⟨_, rfl, rfl, hI.step (by decide), trivial⟩
          · intro L a wa hL hI hs hd
            exact op_val _ (w' := wa) (by unfold execOp; go_simp) ⟨_, rfl, rfl, hI.step (by decide), trivial⟩
        · intro vs L W2 hL hI hall
          simp only [allHold, gives] at hall
          obtain ⟨h0, h1, h2, h3, h4, h5, _⟩ := hall
          simp only [putL]
          generalize vs 0 = v0 at *
          generalize vs 1 = v1 at *
          generalize vs 2 = v2 at *
          generalize vs 3 = v3 at *
          generalize vs 4 = v4 at *
          generalize vs 5 = v5 at *
          subst v0 v1 v2 v4 v5
          have HVB := Keep.mk (hI.v1 (hL 3 (by decide)))
          have HBE := Keep.mk hI.b
          have r0 := HVB.out.box.cell 0 _ rfl
          have r1 := HVB.out.box.cell 1 _ rfl
          have r2 := HVB.out.box.cell 2 _ rfl
          have r3 := HVB.out.box.cell 3 _ rfl
          have r4 := HVB.out.box.cell 4 _ rfl
          have r5 := HVB.out.box.cell 5 _ rfl
          clear hI hL HPS
          go_wp2
          rw [outP_ret]
          refine bodyPost_ret (v := .tuple #[.agg (List.toArray zero6), .int .i64 ta, .int .i64 60]) ?_ rfl ⟨zero6, by rw [HE.out], by rw [HE.out]; exact zero_in _ _, HBE.out⟩
          simp [zero6, cells6, results, Tryz.results6, go_sem, r0, r1, r2, r3, r4, r5]
    case neg =>
    have HRUN := Keep.mk H.out.run
    have HFU := Keep.mk H.out.fuel
    have HWT := Keep.mk H.out.wt
    have HLN := Keep.mk H.out.len
    have HBG := Keep.mk H.out.big
    obtain ⟨o, st, k0, kv, lv, rs, rfl, rfl⟩ := rows_cons hst H.out.ps.rows.len
    have hk0 : k0 = o.kind := H.out.ps.rows.1.k
    subst hk0
    clear hst
    have HTK := Keep.mk H.out.tok
    obtain ⟨g, HG⟩ := H.out.ps.topAt (by have := H.out.len; omega)
    have HG := Keep.mk HG
    obtain ⟨A5, c5, e5, _, _⟩ := H.out.ps.o.form
    have e5 : sv = .slice A5 (rs.length + 1) c5 := by simpa using e5
    have s0 : W.cell? ⟨w.heap.size + 1, 0, none⟩ = some (.slice A5 (rs.length + 1) c5) := by rw [← e5]; exact cell_of_one HPS.out.s
    have hrl := H.out.ps.rows.len
    have hb9 : (((rs.length + 1 : Nat) : Int) == 0) = false := by simp; omega
    have HE5 := Keep.mk e5
    clear e5 hrl
    have r0 := HPS.out.v.box.cell 0 _ rfl
    have r1 := HPS.out.v.box.cell 1 _ rfl
    have r2 := HPS.out.v.box.cell 2 _ rfl
    have r3 := HPS.out.v.box.cell 3 _ rfl
    have r4 := HPS.out.v.box.cell 4 _ rfl
    have r5 := HPS.out.v.box.cell 5 _ rfl
    have z0 := HPS.out.v.box.froz 0
    have z1 := HPS.out.v.box.froz 1
    have z2 := HPS.out.v.box.froz 2
    have z3 := HPS.out.v.box.froz 3
    have z4 := HPS.out.v.box.froz 4
    have z5 := HPS.out.v.box.froz 5
    have hsz := HPS.out.size
    have y0 : W.cell? ⟨w.heap.size + 2, 0, none⟩ = some (.int .u8 sg) := HPS.out.tb.cell 0 _ rfl
    have y1 : W.cell? ⟨w.heap.size + 2, 1, none⟩ = some (.int .i64 k) := HPS.out.tb.cell 1 _ rfl
    have y2 : W.cell? ⟨w.heap.size + 2, 2, none⟩ = some (.int .i64 m) := HPS.out.tb.cell 2 _ rfl
    have y3 : W.cell? ⟨w.heap.size + 2, 3, none⟩ = some (.int .i64 x) := HPS.out.tb.cell 3 _ rfl
    have y4 : W.cell? ⟨w.heap.size + 2, 4, none⟩ = some (.string ts) := HPS.out.tb.cell 4 _ rfl
    have y5 : W.cell? ⟨w.heap.size + 2, 5, none⟩ = some (.slice none 0 0) := HPS.out.tb.cell 5 _ rfl
    have y6 : W.cell? ⟨w.heap.size + 2, 6, none⟩ = some (.slice none 0 0) := HPS.out.tb.cell 6 _ rfl
    have y7 : W.cell? ⟨w.heap.size + 2, 7, none⟩ = some (.int .i64 ta) := HPS.out.tb.cell 7 _ rfl
    have y8 : W.cell? ⟨w.heap.size + 2, 8, none⟩ = some (.int .i64 tt) := HPS.out.tb.cell 8 _ rfl
    have y9 : W.cell? ⟨w.heap.size + 2, 9, none⟩ = some (.int .i64 0) := HPS.out.tb.cell 9 _ rfl
    have q0 := HPS.out.tb.froz 0
    have q1 := HPS.out.tb.froz 1
    have q2 := HPS.out.tb.froz 2
    have q3 := HPS.out.tb.froz 3
    have q4 := HPS.out.tb.froz 4
    have q5 := HPS.out.tb.froz 5
    have q6 := HPS.out.tb.froz 6
    have q7 := HPS.out.tb.froz 7
    have q8 := HPS.out.tb.froz 8
    have q9 := HPS.out.tb.froz 9
    go_upto_region 38 with fail
    clear s0 hb9
    clear r0 r1 r2 r3 r4 r5 z0 z1 z2 z3 z4 z5 y0 y1 y2 y3 y4 y5 y6 y7 y8 y9 q0 q1 q2 q3 q4 q5 q6 q7 q8 q9 hsz 
    have HKV := Keep.mk (H.out.ps.rows.1)
    have hkb : ∀ b, lv.ownBlock = some b → w.heap.size + 3 ≤ b ∧ b < W.heap.size := fun b hb => HKV.out.vv.lt b hb
    have hkg : lv.ownBlock ≠ some g := fun e => HKV.out.sv H.out.ps.o g (Or.inr e) HG.out.own
    have hg2 := HG.out.hi
    have hgl := HG.out.lo
    have hgk : ∀ W', W.grownBy W' lv.ownBlock → W'.heap[g]? = W.heap[g]? := fun W' h => h.block g hg2 (fun e => hkg e.symm)
    have hgs : ∀ W', W.grownBy W' lv.ownBlock → W'.heap[w.heap.size + 1]? = W.heap[w.heap.size + 1]? := fun W' h => h.block _ (by omega) (fun e => by have := (hkb _ e.symm).1; omega)
    have hgt : ∀ W', W.grownBy W' lv.ownBlock → W'.heap[w.heap.size]? = W.heap[w.heap.size]? := fun W' h => h.block _ (by omega) (fun e => by have := (hkb _ e.symm).1; omega)
    have hwl : sizeL o.list ≤ 16384 := by
      have h1 : weighS (o :: st) + sizeJ v ≤ ta := HWT.out
      have h2 : weighS (o :: st) = 1 + keysN o.keys + sizeL o.list + weighS st := rfl
      have h3 : ta ≤ _ := HT.out.at_
      have := HBG.out
      omega
    have hln := sizeL_len o.list
    have HJV := Keep.mk (H.out.off rfl)
    refine wp_region_rely 8 (fun L w' => W.grownBy w' lv.ownBlock ∧ (L 7 = false → Below W.heap.size W w')) (fun
      | 0 => fun v _ => v = .pointer (some ⟨g, rs.length * 3, none⟩)
      | 1 => fun v _ => v = .pointer (some ⟨g, rs.length * 3, none⟩)
      | 2 => fun v _ => v = .pointer (some ⟨g, rs.length * 3, none⟩)
      | 3 => fun v _ => v = .pointer (some ⟨g, rs.length * 3 + 2, none⟩)
      | 4 => fun v _ => v = lv
      | 5 => fun v _ => v = .agg #[.int .i64 k9, .int .i64 m9, .int .i64 e9, .string s9, .slice A9 n9 c9, .slice A8 n8 c8]
      | 6 => fun v w' => ∃ q, v = .slice (some ⟨q, 0, none⟩) 1 1 ∧ W.heap.size ≤ q ∧ VBlkT w' q (cells6 k9 m9 e9 s9 A9 n9 c9 A8 n8 c8)
      | 7 => fun x w' => OwnV w' (w.heap.size + 3) (Still w' (w.heap.size + 3) sv ((o.kind, kv, x) :: rs)) x (o.list ++ [v]) ∧ (x.ownBlock = lv.ownBlock ∨ ∃ b, x.ownBlock = some b ∧ W.heap.size ≤ b)
      | _ => fun _ _ => True) (fun | 7 => fun w1 w2 => w1.grownBy w2 lv.ownBlock | _ => fun w1 w2 => Below w1.heap.size w1 w2) (by kernel_rfl) (by kernel_rfl)
      ⟨⟨rfl, rfl, rfl, Nat.le_refl _, fun _ _ _ => rfl⟩, fun _ => below_drawn W⟩ ?_ ?_ ?_
    · intro i j x w1 w2 hij hG
      match j with
      | 0 | 1 | 2 | 3 | 4 | 5 => exact fun h => h
      | 6 =>
        rintro ⟨q, h1, h2, h3⟩
        have hq := lt_of_block h3
        have hst : w2.heap[q]? = w1.heap[q]? := by
          match i, hij with
          | 0, _ | 1, _ | 2, _ | 3, _ | 4, _ | 5, _ => exact hG.block q hq
          | 6, h => exact absurd rfl h
          | 7, _ => exact hG.block q hq (fun e => by have := (hkb q e.symm).2; omega)
          | _ + 8, _ => exact hG.block q hq
        exact ⟨q, h1, h2, hst.trans h3⟩
      | 7 =>
        rintro ⟨h1, h2⟩
        have hG : Below w1.heap.size w1 w2 := by
          match i, hij with
          | 0, _ | 1, _ | 2, _ | 3, _ | 4, _ | 5, _ | 6, _ => exact hG
          | 7, h => exact absurd rfl h
          | _ + 8, _ => exact hG
        exact ⟨h1.keep (fun b hb => hG.block b hb.hi) (fun b hb => hG.block b (h1.lt b hb).2) (fun b hb => hb.up hG), h2⟩
      | _ + 8 => exact fun h => h
    · simp only [List.take, stepHold]
      refine ⟨?_, ?_, ?_, ?_, ?_, ?_, ?_, ?_, trivial⟩
      · intro L a wa hL hI hs hd
        have e1 : a.eval (.tmp 5) = .pointer (some ⟨w.heap.size + 1, 0, none⟩) := hs 5 (by kernel_rfl)
        have f1 := get_form e1
        refine op_call 11 #[.pointer (some ⟨w.heap.size + 1, 0, none⟩)] (by unfold execOp; go_simp) ((HG.out.top wa (hgs wa hI.1) (hgk wa hI.1)).mono ?_)
        rintro r w1 ⟨rfl, hb1⟩
        exact ⟨_, rfl, _, rfl, rfl, ⟨grown_below hI.1 hb1, fun h => up (hI.2 (by simpa using h)) hb1⟩, hb1⟩
      · intro L a wa hL hI hs hd
        have e1 : a.eval (.tmp 5) = .pointer (some ⟨w.heap.size + 1, 0, none⟩) := hs 5 (by kernel_rfl)
        have f1 := get_form e1
        refine op_call 11 #[.pointer (some ⟨w.heap.size + 1, 0, none⟩)] (by unfold execOp; go_simp) ((HG.out.top wa (hgs wa hI.1) (hgk wa hI.1)).mono ?_)
        rintro r w1 ⟨rfl, hb1⟩
        exact ⟨_, rfl, _, rfl, rfl, ⟨grown_below hI.1 hb1, fun h => up (hI.2 (by simpa using h)) hb1⟩, hb1⟩
      · intro L a wa hL hI hs hd
        have e1 : a.eval (.tmp 188) = .pointer (some ⟨g, rs.length * 3, none⟩) := hd.1
        exact op_val _ (w' := wa) (by unfold execOp; simp only [e1]; go_simp) ⟨_, rfl, rfl, ⟨hI.1, fun h => hI.2 (by simpa using h)⟩, Below.refl _ _⟩
      · intro L a wa hL hI hs hd
        have e1 : a.eval (.tmp 189) = .pointer (some ⟨g, rs.length * 3, none⟩) := hd.1
        exact op_val _ (w' := wa) (by unfold execOp; simp only [e1]; go_simp) ⟨_, rfl, rfl, ⟨hI.1, fun h => hI.2 (by simpa using h)⟩, Below.refl _ _⟩
      · intro L a wa hL hI hs hd
        have e1 : a.eval (.tmp 190) = .pointer (some ⟨g, rs.length * 3 + 2, none⟩) := hd.1
        have c0 := HG.out.cell 2 _ rfl wa (hgk wa hI.1)
        have hga : g < wa.heap.size := Nat.lt_of_lt_of_le hg2 hI.1.size
        obtain ⟨Bv, dv, hvf, _, _⟩ := HKV.out.vv.form
        have hvf : lv = _ := hvf
        rw [hvf] at c0
        exact op_val lv (w' := wa) (by rw [hvf]; unfold execOp; simp only [e1]; go_simp) ⟨_, rfl, rfl, ⟨hI.1, fun h => hI.2 (by simpa using h)⟩, Below.refl _ _⟩
      · intro L a wa hL hI hs hd
        have e1 : a.eval (.tmp 2) = .pointer (some ⟨w.heap.size, 0, none⟩) := hs 2 (by kernel_rfl)
        have hpe : VBlkT wa w.heap.size (cells6 k9 m9 e9 s9 A9 n9 c9 A8 n8 c8) := (hgt wa hI.1).trans HPS.out.v
        have hpl := lt_of_block hpe
        have hpb := hpe.box
        have t0 := hpb.cell 0 _ rfl
        have t1 := hpb.cell 1 _ rfl
        have t2 := hpb.cell 2 _ rfl
        have t3 := hpb.cell 3 _ rfl
        have t4 := hpb.cell 4 _ rfl
        have t5 := hpb.cell 5 _ rfl
        exact op_val _ (w' := wa) (by unfold execOp; simp only [e1]; go_simp) ⟨_, rfl, rfl, ⟨hI.1, fun h => hI.2 (by simpa using h)⟩, Below.refl _ _⟩
      · intro L a wa hL hI hs hd
        have e1 : a.eval (.tmp 192) = .agg #[.int .i64 k9, .int .i64 m9, .int .i64 e9, .string s9, .slice A9 n9 c9, .slice A8 n8 c8] := hd.1
        have f1 := get_form e1
        exact op_val _ (w' := wa.alloc (.cells (cells6 k9 m9 e9 s9 A9 n9 c9 A8 n8 c8).toArray 28)) (by unfold execOp; go_simp; rfl) ⟨_, rfl, ⟨wa.heap.size, rfl, hI.1.size, VBlkT.new _ rfl⟩, ⟨grown_below hI.1 (al1 _ _), fun h => up (hI.2 (by simpa using h)) (al1 _ _)⟩, al1 _ _⟩
      · intro L a wa hL hI hs hd
        have e1 : a.eval (.tmp 191) = lv := hd.1
        obtain ⟨q, e2, hq1, hq2⟩ := hd.2.1
        have e2 : a.eval (.tmp 193) = .slice (some ⟨q, 0, none⟩) 1 1 := e2
        have hB := hI.2 hL
        refine op_append_vals (.tmp 191) (.tmp 193) rfl (w.heap.size + 3) (Still wa (w.heap.size + 3) sv ((o.kind, kv, lv) :: rs)) lv o.list e1 (HKV.out.vv.keep (fun b hb => hB.block b hb.hi) (fun b hb => hB.block b (hkb b hb).2) (fun b hb => hb.up hB)) q v _ e2 (fun i u hu => hq2.box.cell i u hu) (Still.jin hB HJV.out) (by omega) (by have := hB.size; omega) (fun b hb h => (h.rs _ List.mem_cons_self).2 hb) (fun b h => h.hi) fun v2 w2 h1 h2 h3 => ⟨_, rfl, ⟨?_, ?_⟩, ⟨grown_trans hI.1 h2, fun h => by simp at h⟩, h2⟩
        · refine h1.keep (fun _ _ => rfl) (fun _ _ => rfl) (fun b hb => ⟨hb.lo, Nat.lt_of_lt_of_le hb.hi h2.size, hb.sv, fun y hy => ?_⟩)
          rcases List.mem_cons.1 hy with rfl | hy
          · refine ⟨(hb.rs _ List.mem_cons_self).1, fun e => ?_⟩
            have e : v2.ownBlock = some b := e
            rcases h3 with h3 | h3
            · exact (hb.rs _ List.mem_cons_self).2 (h3.symm.trans e)
            · have h4 := h3.symm.trans e
              injection h4 with h4
              have := hb.hi
              omega
          · exact hb.rs y (List.mem_cons_of_mem _ hy)
        · rcases h3 with h3 | h3
          · exact Or.inl h3
          · exact Or.inr ⟨_, h3, hB.size⟩
    · intro vs L W2 _ hI hall
      simp only [List.take, allHold, gives] at hall
      obtain ⟨h0, h1, h2, h3, h4, h5, h6, h7, _⟩ := hall
      simp only [List.take, List.drop, putL]
      generalize vs 0 = v0 at *
      generalize vs 1 = v1 at *
      generalize vs 2 = v2 at *
      generalize vs 3 = v3 at *
      generalize vs 4 = v4 at *
      generalize vs 5 = v5 at *
      generalize vs 6 = v6 at *
      generalize vs 7 = v7 at *
      obtain ⟨q, rfl, _⟩ := h6
      obtain ⟨hO9, hn9⟩ := h7
      subst v0 v1 v2 v3 v4 v5
      have HPS2 := Keep.mk (HPS.out.listed hI.1 hO9 hn9 HG.out.own)
      obtain ⟨B9, d9, rfl, _, _⟩ := hO9.form
      have hga : g < W2.heap.size := Nat.lt_of_lt_of_le hg2 hI.1.size
      have c0 := HG.out.cell 2 _ rfl W2 (hgk W2 hI.1)
      have z0 := HG.out.froz (rs.length * 3 + 2) W2 (hgk W2 hI.1)
      clear hI hO9 hn9 HKV hgk hgs hgt hkb hkg HPS HJV
      go_upto_block 4 with fail
      refine wp_world (fun W => PS w W (⟨o.kind, o.keys, o.list ++ [v]⟩ :: st) ((o.kind, kv, .slice B9 (o.list ++ [v]).length d9) :: rs) sv ⟨sg, k, m, x, ts, ta, tt, 0⟩ (cells6 k9 m9 e9 s9 A9 n9 c9 A8 n8 c8)) ?_ ?_
      · simpa using HPS2.out
      clear HPS2 c0 z0 hga H HG hgl hg2 hwl hln
      rintro W4 HPS4
      replace HPS4 := Keep.mk HPS4
      obtain ⟨g4, HG4⟩ := HPS4.out.topAt (by have := HLN.out; simp only [List.length_cons] at this ⊢; omega)
      replace HG4 := Keep.mk HG4
      have hg4 := HG4.out.hi
      by_cases h44 : sg = 44
      case pos =>
        subst h44
        have hsz := HPS4.out.size
        have y0 : W4.cell? ⟨w.heap.size + 2, 0, none⟩ = some (.int .u8 44) := HPS4.out.tb.cell 0 _ rfl
        have y1 : W4.cell? ⟨w.heap.size + 2, 1, none⟩ = some (.int .i64 k) := HPS4.out.tb.cell 1 _ rfl
        have y2 : W4.cell? ⟨w.heap.size + 2, 2, none⟩ = some (.int .i64 m) := HPS4.out.tb.cell 2 _ rfl
        have y3 : W4.cell? ⟨w.heap.size + 2, 3, none⟩ = some (.int .i64 x) := HPS4.out.tb.cell 3 _ rfl
        have y4 : W4.cell? ⟨w.heap.size + 2, 4, none⟩ = some (.string ts) := HPS4.out.tb.cell 4 _ rfl
        have y5 : W4.cell? ⟨w.heap.size + 2, 5, none⟩ = some (.slice none 0 0) := HPS4.out.tb.cell 5 _ rfl
        have y6 : W4.cell? ⟨w.heap.size + 2, 6, none⟩ = some (.slice none 0 0) := HPS4.out.tb.cell 6 _ rfl
        have y7 : W4.cell? ⟨w.heap.size + 2, 7, none⟩ = some (.int .i64 ta) := HPS4.out.tb.cell 7 _ rfl
        have y8 : W4.cell? ⟨w.heap.size + 2, 8, none⟩ = some (.int .i64 tt) := HPS4.out.tb.cell 8 _ rfl
        have y9 : W4.cell? ⟨w.heap.size + 2, 9, none⟩ = some (.int .i64 0) := HPS4.out.tb.cell 9 _ rfl
        have q0 := HPS4.out.tb.froz 0
        have q1 := HPS4.out.tb.froz 1
        have q2 := HPS4.out.tb.froz 2
        have q3 := HPS4.out.tb.froz 3
        have q4 := HPS4.out.tb.froz 4
        have q5 := HPS4.out.tb.froz 5
        have q6 := HPS4.out.tb.froz 6
        have q7 := HPS4.out.tb.froz 7
        have q8 := HPS4.out.tb.froz 8
        have q9 := HPS4.out.tb.froz 9
        have HTP := Keep.mk (HG4.out.top W4 rfl rfl)
        go_wp2_with fail
        refine HTP.out.mono ?_
        rintro rn W5 ⟨rfl, hbt⟩
        have HPS5 := Keep.mk (HPS4.out.below hbt)
        have g0 : W5.cell? ⟨g4, rs.length * 3, none⟩ = some (.int .i64 o.kind) := HG4.out.cell 0 _ rfl W5 (hbt.block _ HG4.out.hi)
        have hgB : g4 < W5.heap.size := Nat.lt_of_lt_of_le hg4 hbt.size
        clear HTP hbt
        clear y0 y1 y2 y3 y4 y5 y6 y7 y8 y9 q0 q1 q2 q3 q4 q5 q6 q7 q8 q9 hsz
        have hsz := HPS5.out.size
        have y0 : W5.cell? ⟨w.heap.size + 2, 0, none⟩ = some (.int .u8 44) := HPS5.out.tb.cell 0 _ rfl
        have y1 : W5.cell? ⟨w.heap.size + 2, 1, none⟩ = some (.int .i64 k) := HPS5.out.tb.cell 1 _ rfl
        have y2 : W5.cell? ⟨w.heap.size + 2, 2, none⟩ = some (.int .i64 m) := HPS5.out.tb.cell 2 _ rfl
        have y3 : W5.cell? ⟨w.heap.size + 2, 3, none⟩ = some (.int .i64 x) := HPS5.out.tb.cell 3 _ rfl
        have y4 : W5.cell? ⟨w.heap.size + 2, 4, none⟩ = some (.string ts) := HPS5.out.tb.cell 4 _ rfl
        have y5 : W5.cell? ⟨w.heap.size + 2, 5, none⟩ = some (.slice none 0 0) := HPS5.out.tb.cell 5 _ rfl
        have y6 : W5.cell? ⟨w.heap.size + 2, 6, none⟩ = some (.slice none 0 0) := HPS5.out.tb.cell 6 _ rfl
        have y7 : W5.cell? ⟨w.heap.size + 2, 7, none⟩ = some (.int .i64 ta) := HPS5.out.tb.cell 7 _ rfl
        have y8 : W5.cell? ⟨w.heap.size + 2, 8, none⟩ = some (.int .i64 tt) := HPS5.out.tb.cell 8 _ rfl
        have y9 : W5.cell? ⟨w.heap.size + 2, 9, none⟩ = some (.int .i64 0) := HPS5.out.tb.cell 9 _ rfl
        have q0 := HPS5.out.tb.froz 0
        have q1 := HPS5.out.tb.froz 1
        have q2 := HPS5.out.tb.froz 2
        have q3 := HPS5.out.tb.froz 3
        have q4 := HPS5.out.tb.froz 4
        have q5 := HPS5.out.tb.froz 5
        have q6 := HPS5.out.tb.froz 6
        have q7 := HPS5.out.tb.froz 7
        have q8 := HPS5.out.tb.froz 8
        have q9 := HPS5.out.tb.froz 9
        by_cases h5 : o.kind = 5
        case pos =>
          have b5 : (o.kind == 5) = true := by simpa using h5
          have HK5 := Keep.mk h5
          clear h5
          have HNX := Keep.mk (fun (W' : World) (hg : GlobV W') => read_next s hs tt (by have h2 : tt ≤ s.data.toList.length := HT.out.to_; have := HL.out; omega) W' hg)
          have yt : W5.cell? ⟨w.heap.size + 2, 8, none⟩ = some (.int .i64 tt) := HPS5.out.tb.cell 8 _ rfl
          have hszA := HPS5.out.size
          go_wp2_with fail
          refine (HNX.out _ HPS5.out.gg).mono ?_
          rintro rn Wn ⟨rfl, hbn⟩
          have HPSn := Keep.mk (HPS5.out.below hbn)
          obtain ⟨t6, htn⟩ : ∃ t, nextT s.data.toList tt = t := ⟨_, rfl⟩
          rw [htn]
          have HN6 := Keep.mk htn
          have HT6 := Keep.mk (by have h := next_tokF s.data.toList tt HT.out.to_; rw [htn] at h; exact h)
          clear htn hbn hszA HPS5 HNX yt
          have q0 := HPSn.out.tb.froz 0
          have q1 := HPSn.out.tb.froz 1
          have q2 := HPSn.out.tb.froz 2
          have q3 := HPSn.out.tb.froz 3
          have q4 := HPSn.out.tb.froz 4
          have q5 := HPSn.out.tb.froz 5
          have q6 := HPSn.out.tb.froz 6
          have q7 := HPSn.out.tb.froz 7
          have q8 := HPSn.out.tb.froz 8
          have q9 := HPSn.out.tb.froz 9
          have y0 := HPSn.out.tb.cell 0 _ rfl
          have y1 := HPSn.out.tb.cell 1 _ rfl
          have y2 := HPSn.out.tb.cell 2 _ rfl
          have y3 := HPSn.out.tb.cell 3 _ rfl
          have y4 := HPSn.out.tb.cell 4 _ rfl
          have y5 := HPSn.out.tb.cell 5 _ rfl
          have y6 := HPSn.out.tb.cell 6 _ rfl
          have y7 := HPSn.out.tb.cell 7 _ rfl
          have y8 := HPSn.out.tb.cell 8 _ rfl
          have y9 := HPSn.out.tb.cell 9 _ rfl
          have hsn := HPSn.out.size
          simp only [tokC]
          have hk1 : ta + 1 + ts.size ≤ tt := HT.out.wt rfl (show (44 : Nat) ≠ 255 by decide)
          have hk4 := HT6.out.2
          have hk5 := HT6.out.1.at_
          go_wp2
          go_step3
          try simp only [Exit.then, Exit.inBlock]
          refine outBy_goto (by simp [four]) ⟨f, Nat.lt_succ_self f, FrameP.mk .., _, v, t6, _, sv, _, HBG.out, HPSn.out.tok t6, ⟨_, _, _, _, _, _, _, _, _, _, rfl⟩, ((off_list _ _ _ _ _ _ _ _ HN6.out rfl rfl HK5.out).symm.trans HRUN.out), ?_, ⟨tt, HT.out.to_, HN6.out.symm⟩, HLN.out, ?_, (fun h => by cases h), (fun h => by rcases h with h | h <;> cases h), (fun h => by cases h)⟩
          · have h1 := HFU.out
            simp only [wantP, phL] at h1 ⊢
            omega
          · have h1 : weighS (o :: st) + sizeJ v ≤ ta := HWT.out
            have h2 : weighS (o :: st) = 1 + keysN o.keys + sizeL o.list + weighS st := rfl
            show 1 + keysN o.keys + sizeL (o.list ++ [v]) + weighS st + 0 ≤ t6.at_
            rw [sizeL_snoc]
            omega
        case neg =>
          have b5 : (o.kind == 5) = false := by simpa using h5
          have HK5 := Keep.mk h5
          clear h5
          have HNX := Keep.mk (fun (W' : World) (hg : GlobV W') => read_next s hs tt (by have h2 : tt ≤ s.data.toList.length := HT.out.to_; have := HL.out; omega) W' hg)
          have yt : W5.cell? ⟨w.heap.size + 2, 8, none⟩ = some (.int .i64 tt) := HPS5.out.tb.cell 8 _ rfl
          have hszA := HPS5.out.size
          go_wp2_with fail
          refine (HNX.out _ HPS5.out.gg).mono ?_
          rintro rn Wn ⟨rfl, hbn⟩
          have HPSn := Keep.mk (HPS5.out.below hbn)
          obtain ⟨t6, htn⟩ : ∃ t, nextT s.data.toList tt = t := ⟨_, rfl⟩
          rw [htn]
          have HN6 := Keep.mk htn
          have HT6 := Keep.mk (by have h := next_tokF s.data.toList tt HT.out.to_; rw [htn] at h; exact h)
          clear htn hbn hszA HPS5 HNX yt
          have q0 := HPSn.out.tb.froz 0
          have q1 := HPSn.out.tb.froz 1
          have q2 := HPSn.out.tb.froz 2
          have q3 := HPSn.out.tb.froz 3
          have q4 := HPSn.out.tb.froz 4
          have q5 := HPSn.out.tb.froz 5
          have q6 := HPSn.out.tb.froz 6
          have q7 := HPSn.out.tb.froz 7
          have q8 := HPSn.out.tb.froz 8
          have q9 := HPSn.out.tb.froz 9
          have y0 := HPSn.out.tb.cell 0 _ rfl
          have y1 := HPSn.out.tb.cell 1 _ rfl
          have y2 := HPSn.out.tb.cell 2 _ rfl
          have y3 := HPSn.out.tb.cell 3 _ rfl
          have y4 := HPSn.out.tb.cell 4 _ rfl
          have y5 := HPSn.out.tb.cell 5 _ rfl
          have y6 := HPSn.out.tb.cell 6 _ rfl
          have y7 := HPSn.out.tb.cell 7 _ rfl
          have y8 := HPSn.out.tb.cell 8 _ rfl
          have y9 := HPSn.out.tb.cell 9 _ rfl
          have hsn := HPSn.out.size
          simp only [tokC]
          have hk1 : ta + 1 + ts.size ≤ tt := HT.out.wt rfl (show (44 : Nat) ≠ 255 by decide)
          have hk4 := HT6.out.2
          have hk5 := HT6.out.1.at_
          go_wp2
          go_step3
          try simp only [Exit.then, Exit.inBlock]
          refine outBy_goto (by simp [four]) ⟨f, Nat.lt_succ_self f, FrameP.mk .., _, v, t6, _, sv, _, HBG.out, HPSn.out.tok t6, ⟨_, _, _, _, _, _, _, _, _, _, rfl⟩, ((off_pair _ _ _ _ _ _ _ _ HN6.out rfl rfl HK5.out).symm.trans HRUN.out), ?_, ⟨tt, HT.out.to_, HN6.out.symm⟩, HLN.out, ?_, (fun h => by cases h), (fun _ => by simp), (fun h => by cases h)⟩
          · have h1 := HFU.out
            simp only [wantP, phL] at h1 ⊢
            omega
          · have h1 : weighS (o :: st) + sizeJ v ≤ ta := HWT.out
            have h2 : weighS (o :: st) = 1 + keysN o.keys + sizeL o.list + weighS st := rfl
            show 1 + keysN o.keys + sizeL (o.list ++ [v]) + weighS st + 0 ≤ t6.at_
            rw [sizeL_snoc]
            omega
      case neg =>
      by_cases h93 : sg = 93
      case pos =>
        subst h93
        clear h44
        have hsz := HPS4.out.size
        have y0 : W4.cell? ⟨w.heap.size + 2, 0, none⟩ = some (.int .u8 93) := HPS4.out.tb.cell 0 _ rfl
        have y1 : W4.cell? ⟨w.heap.size + 2, 1, none⟩ = some (.int .i64 k) := HPS4.out.tb.cell 1 _ rfl
        have y2 : W4.cell? ⟨w.heap.size + 2, 2, none⟩ = some (.int .i64 m) := HPS4.out.tb.cell 2 _ rfl
        have y3 : W4.cell? ⟨w.heap.size + 2, 3, none⟩ = some (.int .i64 x) := HPS4.out.tb.cell 3 _ rfl
        have y4 : W4.cell? ⟨w.heap.size + 2, 4, none⟩ = some (.string ts) := HPS4.out.tb.cell 4 _ rfl
        have y5 : W4.cell? ⟨w.heap.size + 2, 5, none⟩ = some (.slice none 0 0) := HPS4.out.tb.cell 5 _ rfl
        have y6 : W4.cell? ⟨w.heap.size + 2, 6, none⟩ = some (.slice none 0 0) := HPS4.out.tb.cell 6 _ rfl
        have y7 : W4.cell? ⟨w.heap.size + 2, 7, none⟩ = some (.int .i64 ta) := HPS4.out.tb.cell 7 _ rfl
        have y8 : W4.cell? ⟨w.heap.size + 2, 8, none⟩ = some (.int .i64 tt) := HPS4.out.tb.cell 8 _ rfl
        have y9 : W4.cell? ⟨w.heap.size + 2, 9, none⟩ = some (.int .i64 0) := HPS4.out.tb.cell 9 _ rfl
        have q0 := HPS4.out.tb.froz 0
        have q1 := HPS4.out.tb.froz 1
        have q2 := HPS4.out.tb.froz 2
        have q3 := HPS4.out.tb.froz 3
        have q4 := HPS4.out.tb.froz 4
        have q5 := HPS4.out.tb.froz 5
        have q6 := HPS4.out.tb.froz 6
        have q7 := HPS4.out.tb.froz 7
        have q8 := HPS4.out.tb.froz 8
        have q9 := HPS4.out.tb.froz 9
        have HTP := Keep.mk (HG4.out.top W4 rfl rfl)
        go_wp2_with fail
        refine HTP.out.mono ?_
        rintro rn W5 ⟨rfl, hbt⟩
        have HPS5 := Keep.mk (HPS4.out.below hbt)
        have g0 : W5.cell? ⟨g4, rs.length * 3, none⟩ = some (.int .i64 o.kind) := HG4.out.cell 0 _ rfl W5 (hbt.block _ HG4.out.hi)
        have hgB : g4 < W5.heap.size := Nat.lt_of_lt_of_le hg4 hbt.size
        clear HTP hbt
        clear y0 y1 y2 y3 y4 y5 y6 y7 y8 y9 q0 q1 q2 q3 q4 q5 q6 q7 q8 q9 hsz
        by_cases h5 : o.kind = 5
        case pos =>
          have b5 : (o.kind == 5) = true := by simpa using h5
          have HK5 := Keep.mk h5
          clear h5
          have hsz := HPS5.out.size
          have y0 : W5.cell? ⟨w.heap.size + 2, 0, none⟩ = some (.int .u8 93) := HPS5.out.tb.cell 0 _ rfl
          have y1 : W5.cell? ⟨w.heap.size + 2, 1, none⟩ = some (.int .i64 k) := HPS5.out.tb.cell 1 _ rfl
          have y2 : W5.cell? ⟨w.heap.size + 2, 2, none⟩ = some (.int .i64 m) := HPS5.out.tb.cell 2 _ rfl
          have y3 : W5.cell? ⟨w.heap.size + 2, 3, none⟩ = some (.int .i64 x) := HPS5.out.tb.cell 3 _ rfl
          have y4 : W5.cell? ⟨w.heap.size + 2, 4, none⟩ = some (.string ts) := HPS5.out.tb.cell 4 _ rfl
          have y5 : W5.cell? ⟨w.heap.size + 2, 5, none⟩ = some (.slice none 0 0) := HPS5.out.tb.cell 5 _ rfl
          have y6 : W5.cell? ⟨w.heap.size + 2, 6, none⟩ = some (.slice none 0 0) := HPS5.out.tb.cell 6 _ rfl
          have y7 : W5.cell? ⟨w.heap.size + 2, 7, none⟩ = some (.int .i64 ta) := HPS5.out.tb.cell 7 _ rfl
          have y8 : W5.cell? ⟨w.heap.size + 2, 8, none⟩ = some (.int .i64 tt) := HPS5.out.tb.cell 8 _ rfl
          have y9 : W5.cell? ⟨w.heap.size + 2, 9, none⟩ = some (.int .i64 0) := HPS5.out.tb.cell 9 _ rfl
          have q0 := HPS5.out.tb.froz 0
          have q1 := HPS5.out.tb.froz 1
          have q2 := HPS5.out.tb.froz 2
          have q3 := HPS5.out.tb.froz 3
          have q4 := HPS5.out.tb.froz 4
          have q5 := HPS5.out.tb.froz 5
          have q6 := HPS5.out.tb.froz 6
          have q7 := HPS5.out.tb.froz 7
          have q8 := HPS5.out.tb.froz 8
          have q9 := HPS5.out.tb.froz 9
          go_wp2
          go_step3
          try simp only [Exit.then, Exit.inBlock]
          refine outBy_goto (by simp [four]) ⟨f, Nat.lt_succ_self f, FrameP.mk .., _, v, _, _, sv, _, HBG.out, HPS5.out, ⟨_, _, _, _, _, _, _, _, _, _, rfl⟩, ((off_shut _ _ _ _ _ _ _ rfl (show (93 : Nat) ≠ 44 by decide) (by simp [isShut, HK5.out])).symm.trans HRUN.out), ?_, HTK.out, HLN.out, ?_, (fun h => by cases h), (fun _ => by simp), (fun _ => ⟨rfl, show (93 : Nat) ≠ 255 by decide⟩)⟩
          · have h1 := HFU.out
            have h2 := HT.out.at_
            simp only [wantP, phL] at h1 h2 ⊢
            omega
          · have h1 : weighS (o :: st) + sizeJ v ≤ ta := HWT.out
            have h2 : weighS (o :: st) = 1 + keysN o.keys + sizeL o.list + weighS st := rfl
            show 1 + keysN o.keys + sizeL (o.list ++ [v]) + weighS st + 0 ≤ ta
            rw [sizeL_snoc]
            omega
        case neg =>
          have b5 : (o.kind == 5) = false := by simpa using h5
          have HE := Keep.mk (HRUN.out.symm.trans (off_bad _ _ _ _ _ _ _ rfl (show (93 : Nat) ≠ 44 by decide) (by simp [isShut, h5])))
          clear h5
          have r0 := HPS5.out.v.box.cell 0 _ rfl
          have r1 := HPS5.out.v.box.cell 1 _ rfl
          have r2 := HPS5.out.v.box.cell 2 _ rfl
          have r3 := HPS5.out.v.box.cell 3 _ rfl
          have r4 := HPS5.out.v.box.cell 4 _ rfl
          have r5 := HPS5.out.v.box.cell 5 _ rfl
          have z0 := HPS5.out.v.box.froz 0
          have z1 := HPS5.out.v.box.froz 1
          have z2 := HPS5.out.v.box.froz 2
          have z3 := HPS5.out.v.box.froz 3
          have z4 := HPS5.out.v.box.froz 4
          have z5 := HPS5.out.v.box.froz 5
          have hsz := HPS5.out.size
          have y0 : W5.cell? ⟨w.heap.size + 2, 0, none⟩ = some (.int .u8 93) := HPS5.out.tb.cell 0 _ rfl
          have y1 : W5.cell? ⟨w.heap.size + 2, 1, none⟩ = some (.int .i64 k) := HPS5.out.tb.cell 1 _ rfl
          have y2 : W5.cell? ⟨w.heap.size + 2, 2, none⟩ = some (.int .i64 m) := HPS5.out.tb.cell 2 _ rfl
          have y3 : W5.cell? ⟨w.heap.size + 2, 3, none⟩ = some (.int .i64 x) := HPS5.out.tb.cell 3 _ rfl
          have y4 : W5.cell? ⟨w.heap.size + 2, 4, none⟩ = some (.string ts) := HPS5.out.tb.cell 4 _ rfl
          have y5 : W5.cell? ⟨w.heap.size + 2, 5, none⟩ = some (.slice none 0 0) := HPS5.out.tb.cell 5 _ rfl
          have y6 : W5.cell? ⟨w.heap.size + 2, 6, none⟩ = some (.slice none 0 0) := HPS5.out.tb.cell 6 _ rfl
          have y7 : W5.cell? ⟨w.heap.size + 2, 7, none⟩ = some (.int .i64 ta) := HPS5.out.tb.cell 7 _ rfl
          have y8 : W5.cell? ⟨w.heap.size + 2, 8, none⟩ = some (.int .i64 tt) := HPS5.out.tb.cell 8 _ rfl
          have y9 : W5.cell? ⟨w.heap.size + 2, 9, none⟩ = some (.int .i64 0) := HPS5.out.tb.cell 9 _ rfl
          have q0 := HPS5.out.tb.froz 0
          have q1 := HPS5.out.tb.froz 1
          have q2 := HPS5.out.tb.froz 2
          have q3 := HPS5.out.tb.froz 3
          have q4 := HPS5.out.tb.froz 4
          have q5 := HPS5.out.tb.froz 5
          have q6 := HPS5.out.tb.froz 6
          have q7 := HPS5.out.tb.froz 7
          have q8 := HPS5.out.tb.froz 8
          have q9 := HPS5.out.tb.froz 9
          go_wp2_with fail
          clear r0 r1 r2 r3 r4 r5 z0 z1 z2 z3 z4 z5 y0 y1 y2 y3 y4 y5 y6 y7 y8 y9 q0 q1 q2 q3 q4 q5 q6 q7 q8 q9 hsz 
          refine wp_region_every (ErrI w ⟨93, k, m, x, ts, ta, tt, 0⟩ (cells6 k9 m9 e9 s9 A9 n9 c9 A8 n8 c8) 3) (fun
            | 0 => fun v _ => v = .agg (List.toArray zero6)
            | 1 => fun v _ => v = .pointer (some ⟨w.heap.size + 2, 7, none⟩)
            | 2 => fun v _ => v = .int .i64 ta
            | 3 => fun v _ => True
            | 4 => fun v _ => v = .int .i64 ta
            | 5 => fun v _ => v = .int .i64 60
            | _ => fun _ _ => True) (fun _ _ _ => True) (by kernel_rfl) (by kernel_rfl) (ErrI.new HPS5.out) ?_ ?_ ?_
          · intro i j v w1 w2 _ _
            match j with
            | 0 | 1 | 2 | 3 | 4 | 5 => exact fun h => h
            | _ + 6 => exact fun h => h
          · simp only [stepHold]
            refine ⟨?_, ?_, ?_, ?_, ?_, ?_, trivial⟩
            · intro L a wa hL hI hs hd
              exact op_val _ (w' := wa) (by unfold execOp; go_simp; rfl) ⟨_, rfl, rfl, hI.step (by decide), trivial⟩
            · intro L a wa hL hI hs hd
              have e1 : a.eval (.tmp 6) = .pointer (some ⟨w.heap.size + 2, 0, none⟩) := hs 6 (by kernel_rfl)
              exact op_val _ (w' := wa) (by unfold execOp; simp only [e1]; go_simp) ⟨_, rfl, rfl, hI.step (by decide), trivial⟩
            · intro L a wa hL hI hs hd
              have e1 : a.eval (.tmp 242) = .pointer (some ⟨w.heap.size + 2, 7, none⟩) := hd.1
              have c0 : wa.cell? ⟨w.heap.size + 2, 7, none⟩ = some (.int .i64 ta) := hI.t.cell 7 _ rfl
              have hl := hI.t.lt
              exact op_val _ (w' := wa) (by unfold execOp; simp only [e1]; go_simp) ⟨_, rfl, rfl, hI.step (by decide), trivial⟩
            · intro L a wa hL hI hs hd
              have e1 : a.eval (.tmp 2) = .pointer (some ⟨w.heap.size, 0, none⟩) := hs 2 (by kernel_rfl)
              have e2 : a.eval (.tmp 241) = .agg (List.toArray zero6) := hd.1
              have hb := (hI.v0 hL).box
              have z0 := hb.froz 0
              have z1 := hb.froz 1
              have z2 := hb.froz 2
              have z3 := hb.froz 3
              have z4 := hb.froz 4
              have z5 := hb.froz 5
              have c0 := hb.cell 0 _ rfl
              have c1 := hb.cell 1 _ rfl
              have c2 := hb.cell 2 _ rfl
              have c3 := hb.cell 3 _ rfl
              have c4 := hb.cell 4 _ rfl
              have c5 := hb.cell 5 _ rfl
              have hl := hb.lt
              exact op_skip (w' := six wa w.heap.size (.int .i64 0) (.int .i64 0) (.int .i64 0) (.string ⟨#[]⟩) (.slice none 0 0) (.slice none 0 0)) (by unfold execOp; simp only [e1, e2, zero6, cells6]; go_simp; rfl) ⟨undef, rfl, trivial, hI.put hL, trivial⟩
            · intro L a wa hL hI hs hd
              have e1 : a.eval (.tmp 243) = .int .i64 ta := hd.1
              exact op_val _ (w' := wa) (by unfold execOp; simp only [e1]; go_simp) ⟨_, rfl, rfl, hI.step (by decide), trivial⟩
            · intro L a wa hL hI hs hd
              exact op_val _ (w' := wa) (by unfold execOp; go_simp) ⟨_, rfl, rfl, hI.step (by decide), trivial⟩
          · intro vs L W2 hL hI hall
            simp only [allHold, gives] at hall
            obtain ⟨h0, h1, h2, h3, h4, h5, _⟩ := hall
            simp only [putL]
            generalize vs 0 = v0 at *
            generalize vs 1 = v1 at *
            generalize vs 2 = v2 at *
            generalize vs 3 = v3 at *
            generalize vs 4 = v4 at *
            generalize vs 5 = v5 at *
            subst v0 v1 v2 v4 v5
            have HVB := Keep.mk (hI.v1 (hL 3 (by decide)))
            have HBE := Keep.mk hI.b
            have r0 := HVB.out.box.cell 0 _ rfl
            have r1 := HVB.out.box.cell 1 _ rfl
            have r2 := HVB.out.box.cell 2 _ rfl
            have r3 := HVB.out.box.cell 3 _ rfl
            have r4 := HVB.out.box.cell 4 _ rfl
            have r5 := HVB.out.box.cell 5 _ rfl
            clear hI hL HPS5
            go_wp2
            rw [outP_ret]
            refine bodyPost_ret (v := .tuple #[.agg (List.toArray zero6), .int .i64 ta, .int .i64 60]) ?_ rfl ⟨zero6, by rw [HE.out], by rw [HE.out]; exact zero_in _ _, HBE.out⟩
            simp [zero6, cells6, results, Tryz.results6, go_sem, r0, r1, r2, r3, r4, r5]
      case neg =>
      by_cases h125 : sg = 125
      case pos =>
        subst h125
        clear h44 h93
        have hsz := HPS4.out.size
        have y0 : W4.cell? ⟨w.heap.size + 2, 0, none⟩ = some (.int .u8 125) := HPS4.out.tb.cell 0 _ rfl
        have y1 : W4.cell? ⟨w.heap.size + 2, 1, none⟩ = some (.int .i64 k) := HPS4.out.tb.cell 1 _ rfl
        have y2 : W4.cell? ⟨w.heap.size + 2, 2, none⟩ = some (.int .i64 m) := HPS4.out.tb.cell 2 _ rfl
        have y3 : W4.cell? ⟨w.heap.size + 2, 3, none⟩ = some (.int .i64 x) := HPS4.out.tb.cell 3 _ rfl
        have y4 : W4.cell? ⟨w.heap.size + 2, 4, none⟩ = some (.string ts) := HPS4.out.tb.cell 4 _ rfl
        have y5 : W4.cell? ⟨w.heap.size + 2, 5, none⟩ = some (.slice none 0 0) := HPS4.out.tb.cell 5 _ rfl
        have y6 : W4.cell? ⟨w.heap.size + 2, 6, none⟩ = some (.slice none 0 0) := HPS4.out.tb.cell 6 _ rfl
        have y7 : W4.cell? ⟨w.heap.size + 2, 7, none⟩ = some (.int .i64 ta) := HPS4.out.tb.cell 7 _ rfl
        have y8 : W4.cell? ⟨w.heap.size + 2, 8, none⟩ = some (.int .i64 tt) := HPS4.out.tb.cell 8 _ rfl
        have y9 : W4.cell? ⟨w.heap.size + 2, 9, none⟩ = some (.int .i64 0) := HPS4.out.tb.cell 9 _ rfl
        have q0 := HPS4.out.tb.froz 0
        have q1 := HPS4.out.tb.froz 1
        have q2 := HPS4.out.tb.froz 2
        have q3 := HPS4.out.tb.froz 3
        have q4 := HPS4.out.tb.froz 4
        have q5 := HPS4.out.tb.froz 5
        have q6 := HPS4.out.tb.froz 6
        have q7 := HPS4.out.tb.froz 7
        have q8 := HPS4.out.tb.froz 8
        have q9 := HPS4.out.tb.froz 9
        have HTP := Keep.mk (HG4.out.top W4 rfl rfl)
        go_wp2_with fail
        refine HTP.out.mono ?_
        rintro rn W5 ⟨rfl, hbt⟩
        have HPS5 := Keep.mk (HPS4.out.below hbt)
        have g0 : W5.cell? ⟨g4, rs.length * 3, none⟩ = some (.int .i64 o.kind) := HG4.out.cell 0 _ rfl W5 (hbt.block _ HG4.out.hi)
        have hgB : g4 < W5.heap.size := Nat.lt_of_lt_of_le hg4 hbt.size
        clear HTP hbt
        clear y0 y1 y2 y3 y4 y5 y6 y7 y8 y9 q0 q1 q2 q3 q4 q5 q6 q7 q8 q9 hsz
        by_cases h5 : o.kind = 6
        case pos =>
          have b5 : (o.kind == 6) = true := by simpa using h5
          have HK5 := Keep.mk h5
          clear h5
          have hsz := HPS5.out.size
          have y0 : W5.cell? ⟨w.heap.size + 2, 0, none⟩ = some (.int .u8 125) := HPS5.out.tb.cell 0 _ rfl
          have y1 : W5.cell? ⟨w.heap.size + 2, 1, none⟩ = some (.int .i64 k) := HPS5.out.tb.cell 1 _ rfl
          have y2 : W5.cell? ⟨w.heap.size + 2, 2, none⟩ = some (.int .i64 m) := HPS5.out.tb.cell 2 _ rfl
          have y3 : W5.cell? ⟨w.heap.size + 2, 3, none⟩ = some (.int .i64 x) := HPS5.out.tb.cell 3 _ rfl
          have y4 : W5.cell? ⟨w.heap.size + 2, 4, none⟩ = some (.string ts) := HPS5.out.tb.cell 4 _ rfl
          have y5 : W5.cell? ⟨w.heap.size + 2, 5, none⟩ = some (.slice none 0 0) := HPS5.out.tb.cell 5 _ rfl
          have y6 : W5.cell? ⟨w.heap.size + 2, 6, none⟩ = some (.slice none 0 0) := HPS5.out.tb.cell 6 _ rfl
          have y7 : W5.cell? ⟨w.heap.size + 2, 7, none⟩ = some (.int .i64 ta) := HPS5.out.tb.cell 7 _ rfl
          have y8 : W5.cell? ⟨w.heap.size + 2, 8, none⟩ = some (.int .i64 tt) := HPS5.out.tb.cell 8 _ rfl
          have y9 : W5.cell? ⟨w.heap.size + 2, 9, none⟩ = some (.int .i64 0) := HPS5.out.tb.cell 9 _ rfl
          have q0 := HPS5.out.tb.froz 0
          have q1 := HPS5.out.tb.froz 1
          have q2 := HPS5.out.tb.froz 2
          have q3 := HPS5.out.tb.froz 3
          have q4 := HPS5.out.tb.froz 4
          have q5 := HPS5.out.tb.froz 5
          have q6 := HPS5.out.tb.froz 6
          have q7 := HPS5.out.tb.froz 7
          have q8 := HPS5.out.tb.froz 8
          have q9 := HPS5.out.tb.froz 9
          go_wp2
          go_step3
          try simp only [Exit.then, Exit.inBlock]
          refine outBy_goto (by simp [four]) ⟨f, Nat.lt_succ_self f, FrameP.mk .., _, v, _, _, sv, _, HBG.out, HPS5.out, ⟨_, _, _, _, _, _, _, _, _, _, rfl⟩, ((off_shut _ _ _ _ _ _ _ rfl (show (125 : Nat) ≠ 44 by decide) (by simp [isShut, HK5.out])).symm.trans HRUN.out), ?_, HTK.out, HLN.out, ?_, (fun h => by cases h), (fun _ => by simp), (fun _ => ⟨rfl, show (125 : Nat) ≠ 255 by decide⟩)⟩
          · have h1 := HFU.out
            have h2 := HT.out.at_
            simp only [wantP, phL] at h1 h2 ⊢
            omega
          · have h1 : weighS (o :: st) + sizeJ v ≤ ta := HWT.out
            have h2 : weighS (o :: st) = 1 + keysN o.keys + sizeL o.list + weighS st := rfl
            show 1 + keysN o.keys + sizeL (o.list ++ [v]) + weighS st + 0 ≤ ta
            rw [sizeL_snoc]
            omega
        case neg =>
          have b5 : (o.kind == 6) = false := by simpa using h5
          have HE := Keep.mk (HRUN.out.symm.trans (off_bad _ _ _ _ _ _ _ rfl (show (125 : Nat) ≠ 44 by decide) (by simp [isShut, h5])))
          clear h5
          have r0 := HPS5.out.v.box.cell 0 _ rfl
          have r1 := HPS5.out.v.box.cell 1 _ rfl
          have r2 := HPS5.out.v.box.cell 2 _ rfl
          have r3 := HPS5.out.v.box.cell 3 _ rfl
          have r4 := HPS5.out.v.box.cell 4 _ rfl
          have r5 := HPS5.out.v.box.cell 5 _ rfl
          have z0 := HPS5.out.v.box.froz 0
          have z1 := HPS5.out.v.box.froz 1
          have z2 := HPS5.out.v.box.froz 2
          have z3 := HPS5.out.v.box.froz 3
          have z4 := HPS5.out.v.box.froz 4
          have z5 := HPS5.out.v.box.froz 5
          have hsz := HPS5.out.size
          have y0 : W5.cell? ⟨w.heap.size + 2, 0, none⟩ = some (.int .u8 125) := HPS5.out.tb.cell 0 _ rfl
          have y1 : W5.cell? ⟨w.heap.size + 2, 1, none⟩ = some (.int .i64 k) := HPS5.out.tb.cell 1 _ rfl
          have y2 : W5.cell? ⟨w.heap.size + 2, 2, none⟩ = some (.int .i64 m) := HPS5.out.tb.cell 2 _ rfl
          have y3 : W5.cell? ⟨w.heap.size + 2, 3, none⟩ = some (.int .i64 x) := HPS5.out.tb.cell 3 _ rfl
          have y4 : W5.cell? ⟨w.heap.size + 2, 4, none⟩ = some (.string ts) := HPS5.out.tb.cell 4 _ rfl
          have y5 : W5.cell? ⟨w.heap.size + 2, 5, none⟩ = some (.slice none 0 0) := HPS5.out.tb.cell 5 _ rfl
          have y6 : W5.cell? ⟨w.heap.size + 2, 6, none⟩ = some (.slice none 0 0) := HPS5.out.tb.cell 6 _ rfl
          have y7 : W5.cell? ⟨w.heap.size + 2, 7, none⟩ = some (.int .i64 ta) := HPS5.out.tb.cell 7 _ rfl
          have y8 : W5.cell? ⟨w.heap.size + 2, 8, none⟩ = some (.int .i64 tt) := HPS5.out.tb.cell 8 _ rfl
          have y9 : W5.cell? ⟨w.heap.size + 2, 9, none⟩ = some (.int .i64 0) := HPS5.out.tb.cell 9 _ rfl
          have q0 := HPS5.out.tb.froz 0
          have q1 := HPS5.out.tb.froz 1
          have q2 := HPS5.out.tb.froz 2
          have q3 := HPS5.out.tb.froz 3
          have q4 := HPS5.out.tb.froz 4
          have q5 := HPS5.out.tb.froz 5
          have q6 := HPS5.out.tb.froz 6
          have q7 := HPS5.out.tb.froz 7
          have q8 := HPS5.out.tb.froz 8
          have q9 := HPS5.out.tb.froz 9
          go_wp2_with fail
          clear r0 r1 r2 r3 r4 r5 z0 z1 z2 z3 z4 z5 y0 y1 y2 y3 y4 y5 y6 y7 y8 y9 q0 q1 q2 q3 q4 q5 q6 q7 q8 q9 hsz 
          refine wp_region_every (ErrI w ⟨125, k, m, x, ts, ta, tt, 0⟩ (cells6 k9 m9 e9 s9 A9 n9 c9 A8 n8 c8) 3) (fun
            | 0 => fun v _ => v = .agg (List.toArray zero6)
            | 1 => fun v _ => v = .pointer (some ⟨w.heap.size + 2, 7, none⟩)
            | 2 => fun v _ => v = .int .i64 ta
            | 3 => fun v _ => True
            | 4 => fun v _ => v = .int .i64 ta
            | 5 => fun v _ => v = .int .i64 60
            | _ => fun _ _ => True) (fun _ _ _ => True) (by kernel_rfl) (by kernel_rfl) (ErrI.new HPS5.out) ?_ ?_ ?_
          · intro i j v w1 w2 _ _
            match j with
            | 0 | 1 | 2 | 3 | 4 | 5 => exact fun h => h
            | _ + 6 => exact fun h => h
          · simp only [stepHold]
            refine ⟨?_, ?_, ?_, ?_, ?_, ?_, trivial⟩
            · intro L a wa hL hI hs hd
              exact op_val _ (w' := wa) (by unfold execOp; go_simp; rfl) ⟨_, rfl, rfl, hI.step (by decide), trivial⟩
            · intro L a wa hL hI hs hd
              have e1 : a.eval (.tmp 6) = .pointer (some ⟨w.heap.size + 2, 0, none⟩) := hs 6 (by kernel_rfl)
              exact op_val _ (w' := wa) (by unfold execOp; simp only [e1]; go_simp) ⟨_, rfl, rfl, hI.step (by decide), trivial⟩
            · intro L a wa hL hI hs hd
              have e1 : a.eval (.tmp 242) = .pointer (some ⟨w.heap.size + 2, 7, none⟩) := hd.1
              have c0 : wa.cell? ⟨w.heap.size + 2, 7, none⟩ = some (.int .i64 ta) := hI.t.cell 7 _ rfl
              have hl := hI.t.lt
              exact op_val _ (w' := wa) (by unfold execOp; simp only [e1]; go_simp) ⟨_, rfl, rfl, hI.step (by decide), trivial⟩
            · intro L a wa hL hI hs hd
              have e1 : a.eval (.tmp 2) = .pointer (some ⟨w.heap.size, 0, none⟩) := hs 2 (by kernel_rfl)
              have e2 : a.eval (.tmp 241) = .agg (List.toArray zero6) := hd.1
              have hb := (hI.v0 hL).box
              have z0 := hb.froz 0
              have z1 := hb.froz 1
              have z2 := hb.froz 2
              have z3 := hb.froz 3
              have z4 := hb.froz 4
              have z5 := hb.froz 5
              have c0 := hb.cell 0 _ rfl
              have c1 := hb.cell 1 _ rfl
              have c2 := hb.cell 2 _ rfl
              have c3 := hb.cell 3 _ rfl
              have c4 := hb.cell 4 _ rfl
              have c5 := hb.cell 5 _ rfl
              have hl := hb.lt
              exact op_skip (w' := six wa w.heap.size (.int .i64 0) (.int .i64 0) (.int .i64 0) (.string ⟨#[]⟩) (.slice none 0 0) (.slice none 0 0)) (by unfold execOp; simp only [e1, e2, zero6, cells6]; go_simp; rfl) ⟨undef, rfl, trivial, hI.put hL, trivial⟩
            · intro L a wa hL hI hs hd
              have e1 : a.eval (.tmp 243) = .int .i64 ta := hd.1
              exact op_val _ (w' := wa) (by unfold execOp; simp only [e1]; go_simp) ⟨_, rfl, rfl, hI.step (by decide), trivial⟩
            · intro L a wa hL hI hs hd
              exact op_val _ (w' := wa) (by unfold execOp; go_simp) ⟨_, rfl, rfl, hI.step (by decide), trivial⟩
          · intro vs L W2 hL hI hall
            simp only [allHold, gives] at hall
            obtain ⟨h0, h1, h2, h3, h4, h5, _⟩ := hall
            simp only [putL]
            generalize vs 0 = v0 at *
            generalize vs 1 = v1 at *
            generalize vs 2 = v2 at *
            generalize vs 3 = v3 at *
            generalize vs 4 = v4 at *
            generalize vs 5 = v5 at *
            subst v0 v1 v2 v4 v5
            have HVB := Keep.mk (hI.v1 (hL 3 (by decide)))
            have HBE := Keep.mk hI.b
            have r0 := HVB.out.box.cell 0 _ rfl
            have r1 := HVB.out.box.cell 1 _ rfl
            have r2 := HVB.out.box.cell 2 _ rfl
            have r3 := HVB.out.box.cell 3 _ rfl
            have r4 := HVB.out.box.cell 4 _ rfl
            have r5 := HVB.out.box.cell 5 _ rfl
            clear hI hL HPS5
            go_wp2
            rw [outP_ret]
            refine bodyPost_ret (v := .tuple #[.agg (List.toArray zero6), .int .i64 ta, .int .i64 60]) ?_ rfl ⟨zero6, by rw [HE.out], by rw [HE.out]; exact zero_in _ _, HBE.out⟩
            simp [zero6, cells6, results, Tryz.results6, go_sem, r0, r1, r2, r3, r4, r5]
      case neg =>
        have b1 : ((sg : Int) == 44) = false := by simp; omega
        have b2 : ((sg : Int) == 93) = false := by simp; omega
        have b3 : ((sg : Int) == 125) = false := by simp; omega
        have HE := Keep.mk (HRUN.out.symm.trans (off_bad _ _ _ _ _ _ _ rfl h44 (by simp [isShut, h93, h125])))
        clear h44 h93 h125
        have r0 := HPS4.out.v.box.cell 0 _ rfl
        have r1 := HPS4.out.v.box.cell 1 _ rfl
        have r2 := HPS4.out.v.box.cell 2 _ rfl
        have r3 := HPS4.out.v.box.cell 3 _ rfl
        have r4 := HPS4.out.v.box.cell 4 _ rfl
        have r5 := HPS4.out.v.box.cell 5 _ rfl
        have z0 := HPS4.out.v.box.froz 0
        have z1 := HPS4.out.v.box.froz 1
        have z2 := HPS4.out.v.box.froz 2
        have z3 := HPS4.out.v.box.froz 3
        have z4 := HPS4.out.v.box.froz 4
        have z5 := HPS4.out.v.box.froz 5
        have hsz := HPS4.out.size
        have y0 : W4.cell? ⟨w.heap.size + 2, 0, none⟩ = some (.int .u8 sg) := HPS4.out.tb.cell 0 _ rfl
        have y1 : W4.cell? ⟨w.heap.size + 2, 1, none⟩ = some (.int .i64 k) := HPS4.out.tb.cell 1 _ rfl
        have y2 : W4.cell? ⟨w.heap.size + 2, 2, none⟩ = some (.int .i64 m) := HPS4.out.tb.cell 2 _ rfl
        have y3 : W4.cell? ⟨w.heap.size + 2, 3, none⟩ = some (.int .i64 x) := HPS4.out.tb.cell 3 _ rfl
        have y4 : W4.cell? ⟨w.heap.size + 2, 4, none⟩ = some (.string ts) := HPS4.out.tb.cell 4 _ rfl
        have y5 : W4.cell? ⟨w.heap.size + 2, 5, none⟩ = some (.slice none 0 0) := HPS4.out.tb.cell 5 _ rfl
        have y6 : W4.cell? ⟨w.heap.size + 2, 6, none⟩ = some (.slice none 0 0) := HPS4.out.tb.cell 6 _ rfl
        have y7 : W4.cell? ⟨w.heap.size + 2, 7, none⟩ = some (.int .i64 ta) := HPS4.out.tb.cell 7 _ rfl
        have y8 : W4.cell? ⟨w.heap.size + 2, 8, none⟩ = some (.int .i64 tt) := HPS4.out.tb.cell 8 _ rfl
        have y9 : W4.cell? ⟨w.heap.size + 2, 9, none⟩ = some (.int .i64 0) := HPS4.out.tb.cell 9 _ rfl
        have q0 := HPS4.out.tb.froz 0
        have q1 := HPS4.out.tb.froz 1
        have q2 := HPS4.out.tb.froz 2
        have q3 := HPS4.out.tb.froz 3
        have q4 := HPS4.out.tb.froz 4
        have q5 := HPS4.out.tb.froz 5
        have q6 := HPS4.out.tb.froz 6
        have q7 := HPS4.out.tb.froz 7
        have q8 := HPS4.out.tb.froz 8
        have q9 := HPS4.out.tb.froz 9
        go_wp2_with fail
        clear r0 r1 r2 r3 r4 r5 z0 z1 z2 z3 z4 z5 y0 y1 y2 y3 y4 y5 y6 y7 y8 y9 q0 q1 q2 q3 q4 q5 q6 q7 q8 q9 hsz 
        refine wp_region_every (ErrI w ⟨sg, k, m, x, ts, ta, tt, 0⟩ (cells6 k9 m9 e9 s9 A9 n9 c9 A8 n8 c8) 3) (fun
          | 0 => fun v _ => v = .agg (List.toArray zero6)
          | 1 => fun v _ => v = .pointer (some ⟨w.heap.size + 2, 7, none⟩)
          | 2 => fun v _ => v = .int .i64 ta
          | 3 => fun v _ => True
          | 4 => fun v _ => v = .int .i64 ta
          | 5 => fun v _ => v = .int .i64 60
          | _ => fun _ _ => True) (fun _ _ _ => True) (by kernel_rfl) (by kernel_rfl) (ErrI.new HPS4.out) ?_ ?_ ?_
        · intro i j v w1 w2 _ _
          match j with
          | 0 | 1 | 2 | 3 | 4 | 5 => exact fun h => h
          | _ + 6 => exact fun h => h
        · simp only [stepHold]
          refine ⟨?_, ?_, ?_, ?_, ?_, ?_, trivial⟩
          · intro L a wa hL hI hs hd
            exact op_val _ (w' := wa) (by unfold execOp; go_simp; rfl) ⟨_, rfl, rfl, hI.step (by decide), trivial⟩
          · intro L a wa hL hI hs hd
            have e1 : a.eval (.tmp 6) = .pointer (some ⟨w.heap.size + 2, 0, none⟩) := hs 6 (by kernel_rfl)
            exact op_val _ (w' := wa) (by unfold execOp; simp only [e1]; go_simp) ⟨_, rfl, rfl, hI.step (by decide), trivial⟩
          · intro L a wa hL hI hs hd
            have e1 : a.eval (.tmp 242) = .pointer (some ⟨w.heap.size + 2, 7, none⟩) := hd.1
            have c0 : wa.cell? ⟨w.heap.size + 2, 7, none⟩ = some (.int .i64 ta) := hI.t.cell 7 _ rfl
            have hl := hI.t.lt
            exact op_val _ (w' := wa) (by unfold execOp; simp only [e1]; go_simp) ⟨_, rfl, rfl, hI.step (by decide), trivial⟩
          · intro L a wa hL hI hs hd
            have e1 : a.eval (.tmp 2) = .pointer (some ⟨w.heap.size, 0, none⟩) := hs 2 (by kernel_rfl)
            have e2 : a.eval (.tmp 241) = .agg (List.toArray zero6) := hd.1
            have hb := (hI.v0 hL).box
            have z0 := hb.froz 0
            have z1 := hb.froz 1
            have z2 := hb.froz 2
            have z3 := hb.froz 3
            have z4 := hb.froz 4
            have z5 := hb.froz 5
            have c0 := hb.cell 0 _ rfl
            have c1 := hb.cell 1 _ rfl
            have c2 := hb.cell 2 _ rfl
            have c3 := hb.cell 3 _ rfl
            have c4 := hb.cell 4 _ rfl
            have c5 := hb.cell 5 _ rfl
            have hl := hb.lt
            exact op_skip (w' := six wa w.heap.size (.int .i64 0) (.int .i64 0) (.int .i64 0) (.string ⟨#[]⟩) (.slice none 0 0) (.slice none 0 0)) (by unfold execOp; simp only [e1, e2, zero6, cells6]; go_simp; rfl) ⟨undef, rfl, trivial, hI.put hL, trivial⟩
          · intro L a wa hL hI hs hd
            have e1 : a.eval (.tmp 243) = .int .i64 ta := hd.1
            exact op_val _ (w' := wa) (by unfold execOp; simp only [e1]; go_simp) ⟨_, rfl, rfl, hI.step (by decide), trivial⟩
          · intro L a wa hL hI hs hd
            exact op_val _ (w' := wa) (by unfold execOp; go_simp) ⟨_, rfl, rfl, hI.step (by decide), trivial⟩
        · intro vs L W2 hL hI hall
          simp only [allHold, gives] at hall
          obtain ⟨h0, h1, h2, h3, h4, h5, _⟩ := hall
          simp only [putL]
          generalize vs 0 = v0 at *
          generalize vs 1 = v1 at *
          generalize vs 2 = v2 at *
          generalize vs 3 = v3 at *
          generalize vs 4 = v4 at *
          generalize vs 5 = v5 at *
          subst v0 v1 v2 v4 v5
          have HVB := Keep.mk (hI.v1 (hL 3 (by decide)))
          have HBE := Keep.mk hI.b
          have r0 := HVB.out.box.cell 0 _ rfl
          have r1 := HVB.out.box.cell 1 _ rfl
          have r2 := HVB.out.box.cell 2 _ rfl
          have r3 := HVB.out.box.cell 3 _ rfl
          have r4 := HVB.out.box.cell 4 _ rfl
          have r5 := HVB.out.box.cell 5 _ rfl
          clear hI hL HPS4
          go_wp2
          rw [outP_ret]
          refine bodyPost_ret (v := .tuple #[.agg (List.toArray zero6), .int .i64 ta, .int .i64 60]) ?_ rfl ⟨zero6, by rw [HE.out], by rw [HE.out]; exact zero_in _ _, HBE.out⟩
          simp [zero6, cells6, results, Tryz.results6, go_sem, r0, r1, r2, r3, r4, r5]
end Go.Proofs.YtbngjlkmpdccjaaGreatDoor
