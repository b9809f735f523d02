/- Lemmas and contracts for the laws ReadParses, ReadBytes, part 40 of 50: ReadP1. Conditions: those that each lemma names. -/
import Derived.Test.YtbngjlkmpdccjaaGreatDoorPack36
import Derived.Test.YtbngjlkmpdccjaaGreatDoorPack38
import Derived.Outline
namespace Go.Proofs.YtbngjlkmpdccjaaGreatDoor
open Go Go.RowKit Go.Proofs Th
attribute [local go_sem] Above.cell
set_option maxRecDepth 100000 in
set_option maxHeartbeats 8000000 in
theorem parse_pass1 (s : ByteArray) (hs : s.size ≤ 100000000) (w : World) (RV : JV × Nat × Int) : ∀ n a W, JP s RV w n 1 a W → (tailP 1).wp Tryz.prog (outP s RV w n) a W := by
  have HL := Keep.mk (show s.data.toList.length = s.size from Array.length_toList ..)
  rintro n a W ⟨hF, st, v, t, rs, sv, cs, H⟩
  refine pass_of (l := 1) rfl ?_
  · 
    obtain ⟨u1, u3, u4, u7, u8, u9, u10, u11, u12, u13, u14, u15, u16, u17, u18, u19, u20, u21, u22, u23, u24, u25, u26, u27, u28, u29, u30, u31, u32, u33, u34, u35, u36, u37, u38, u39, u40, u41, u42, u43, u44, u45, u46, u47, u48, u49, u50, u51, u52, u53, u54, u55, u56, u57, u58, u59, u60, u61, u62, u63, u64, u65, u66, u67, u68, u69, u70, u71, u72, u73, u74, u75, u76, u77, u78, u79, u80, u81, u82, u83, u84, u85, u86, u87, u88, u89, u90, u91, u92, u93, u94, u95, u96, u97, u98, u99, u100, u101, u102, u103, u104, u105, u106, u107, u108, u109, u110, u111, u112, u113, u114, u115, u116, u117, u118, u119, u120, u121, u122, u123, u124, u125, u126, u127, u128, u129, u130, u131, u132, u133, u134, u135, u136, u137, u138, u139, u140, u141, u142, u143, u144, u145, u146, u147, u148, u149, u150, u151, u152, u153, u154, u155, u156, u157, u158, u159, u160, u161, u162, u163, u164, u165, u166, u167, u168, u169, u170, u171, u172, u173, u174, u175, u176, u177, u178, u179, u180, u181, u182, u183, u184, u185, u186, u187, u188, u189, u190, u191, u192, u193, u194, u195, u196, u197, u198, u199, u200, u201, u202, u203, u204, u205, u206, u207, u208, u209, u210, u211, u212, u213, u214, u215, u216, u217, u218, u219, u220, u221, u222, u223, u224, u225, u226, u227, u228, u229, u230, u231, u232, u233, u234, u235, u236, u237, u238, u239, u240, u241, u242, u243, u244, u245, u246, u247, u248, u249⟩ := hF
    obtain ⟨k9, m9, e9, s9, A9, n9, c9, A8, n8, c8, rfl⟩ := H.six
    have HT := Keep.mk H.tokF
    obtain ⟨sg, k, m, x, ts, ta, tt, te⟩ := t
    obtain ⟨f, rfl⟩ := fuel_pos H.fuel
    have HPS := Keep.mk H.ps
    replace H := Keep.mk H
    by_cases he : te = 0
    case neg =>
      have b1 : (te != 0) = true := by simpa using he
      have HE := Keep.mk (H.out.run.symm.trans (val_err _ _ _ _ _ _ (by simpa using he)))
      clear H he
      have r0 := HPS.out.v.box.cell 0 _ rfl
      have r1 := HPS.out.v.box.cell 1 _ rfl
      have r2 := HPS.out.v.box.cell 2 _ rfl
      have r3 := HPS.out.v.box.cell 3 _ rfl
      have r4 := HPS.out.v.box.cell 4 _ rfl
      have r5 := HPS.out.v.box.cell 5 _ rfl
      have z0 := HPS.out.v.box.froz 0
      have z1 := HPS.out.v.box.froz 1
      have z2 := HPS.out.v.box.froz 2
      have z3 := HPS.out.v.box.froz 3
      have z4 := HPS.out.v.box.froz 4
      have z5 := HPS.out.v.box.froz 5
      have hsz := HPS.out.size
      have y0 : W.cell? ⟨w.heap.size + 2, 0, none⟩ = some (.int .u8 sg) := HPS.out.tb.cell 0 _ rfl
      have y1 : W.cell? ⟨w.heap.size + 2, 1, none⟩ = some (.int .i64 k) := HPS.out.tb.cell 1 _ rfl
      have y2 : W.cell? ⟨w.heap.size + 2, 2, none⟩ = some (.int .i64 m) := HPS.out.tb.cell 2 _ rfl
      have y3 : W.cell? ⟨w.heap.size + 2, 3, none⟩ = some (.int .i64 x) := HPS.out.tb.cell 3 _ rfl
      have y4 : W.cell? ⟨w.heap.size + 2, 4, none⟩ = some (.string ts) := HPS.out.tb.cell 4 _ rfl
      have y5 : W.cell? ⟨w.heap.size + 2, 5, none⟩ = some (.slice none 0 0) := HPS.out.tb.cell 5 _ rfl
      have y6 : W.cell? ⟨w.heap.size + 2, 6, none⟩ = some (.slice none 0 0) := HPS.out.tb.cell 6 _ rfl
      have y7 : W.cell? ⟨w.heap.size + 2, 7, none⟩ = some (.int .i64 ta) := HPS.out.tb.cell 7 _ rfl
      have y8 : W.cell? ⟨w.heap.size + 2, 8, none⟩ = some (.int .i64 tt) := HPS.out.tb.cell 8 _ rfl
      have y9 : W.cell? ⟨w.heap.size + 2, 9, none⟩ = some (.int .i64 te) := HPS.out.tb.cell 9 _ rfl
      have q0 := HPS.out.tb.froz 0
      have q1 := HPS.out.tb.froz 1
      have q2 := HPS.out.tb.froz 2
      have q3 := HPS.out.tb.froz 3
      have q4 := HPS.out.tb.froz 4
      have q5 := HPS.out.tb.froz 5
      have q6 := HPS.out.tb.froz 6
      have q7 := HPS.out.tb.froz 7
      have q8 := HPS.out.tb.froz 8
      have q9 := HPS.out.tb.froz 9
      go_wp2_with fail
      clear r0 r1 r2 r3 r4 r5 z0 z1 z2 z3 z4 z5 y0 y1 y2 y3 y4 y5 y6 y7 y8 y9 q0 q1 q2 q3 q4 q5 q6 q7 q8 q9 hsz 
      refine wp_region_every (ErrI w ⟨sg, k, m, x, ts, ta, tt, te⟩ (cells6 k9 m9 e9 s9 A9 n9 c9 A8 n8 c8) 5) (fun
        | 0 => fun v _ => v = .agg (List.toArray zero6)
        | 1 => fun v _ => v = .pointer (some ⟨w.heap.size + 2, 7, none⟩)
        | 2 => fun v _ => v = .int .i64 ta
        | 3 => fun v _ => v = .pointer (some ⟨w.heap.size + 2, 9, none⟩)
        | 4 => fun v _ => v = .int .i64 te
        | 5 => fun v _ => True
        | 6 => fun v _ => v = .int .i64 ta
        | 7 => fun v _ => v = .int .i64 te
        | _ => fun _ _ => True) (fun _ _ _ => True) (by kernel_rfl) (by kernel_rfl) (ErrI.new HPS.out) ?_ ?_ ?_
      · intro i j v w1 w2 _ _
        match j with
        | 0 | 1 | 2 | 3 | 4 | 5 | 6 | 7 => exact fun h => h
        | _ + 8 => exact fun h => h
      · simp only [stepHold]
        refine ⟨?_, ?_, ?_, ?_, ?_, ?_, ?_, ?_, trivial⟩
        · intro L a wa hL hI hs hd
          exact op_val _ (w' := wa) (by unfold execOp; go_simp; rfl) ⟨_, rfl, rfl, hI.step (by decide), trivial⟩
        · intro L a wa hL hI hs hd
          have e1 : a.eval (.tmp 6) = .pointer (some ⟨w.heap.size + 2, 0, none⟩) := hs 6 (by kernel_rfl)
          exact op_val _ (w' := wa) (by unfold execOp; simp only [e1]; go_simp) ⟨_, rfl, rfl, hI.step (by decide), trivial⟩
        · intro L a wa hL hI hs hd
          have e1 : a.eval (.tmp 18) = .pointer (some ⟨w.heap.size + 2, 7, none⟩) := hd.1
          have c0 : wa.cell? ⟨w.heap.size + 2, 7, none⟩ = some (.int .i64 ta) := hI.t.cell 7 _ rfl
          have hl := hI.t.lt
          exact op_val _ (w' := wa) (by unfold execOp; simp only [e1]; go_simp) ⟨_, rfl, rfl, hI.step (by decide), trivial⟩
        · intro L a wa hL hI hs hd
          have e1 : a.eval (.tmp 6) = .pointer (some ⟨w.heap.size + 2, 0, none⟩) := hs 6 (by kernel_rfl)
          exact op_val _ (w' := wa) (by unfold execOp; simp only [e1]; go_simp) ⟨_, rfl, rfl, hI.step (by decide), trivial⟩
        · intro L a wa hL hI hs hd
          have e1 : a.eval (.tmp 20) = .pointer (some ⟨w.heap.size + 2, 9, none⟩) := hd.1
          have c0 : wa.cell? ⟨w.heap.size + 2, 9, none⟩ = some (.int .i64 te) := hI.t.cell 9 _ rfl
          have hl := hI.t.lt
          exact op_val _ (w' := wa) (by unfold execOp; simp only [e1]; go_simp) ⟨_, rfl, rfl, hI.step (by decide), trivial⟩
        · intro L a wa hL hI hs hd
          have e1 : a.eval (.tmp 2) = .pointer (some ⟨w.heap.size, 0, none⟩) := hs 2 (by kernel_rfl)
          have e2 : a.eval (.tmp 17) = .agg (List.toArray zero6) := hd.1
          have hb := (hI.v0 hL).box
          have z0 := hb.froz 0
          have z1 := hb.froz 1
          have z2 := hb.froz 2
          have z3 := hb.froz 3
          have z4 := hb.froz 4
          have z5 := hb.froz 5
          have c0 := hb.cell 0 _ rfl
          have c1 := hb.cell 1 _ rfl
          have c2 := hb.cell 2 _ rfl
          have c3 := hb.cell 3 _ rfl
          have c4 := hb.cell 4 _ rfl
          have c5 := hb.cell 5 _ rfl
          have hl := hb.lt
          exact op_skip (w' := six wa w.heap.size (.int .i64 0) (.int .i64 0) (.int .i64 0) (.string ⟨#[]⟩) (.slice none 0 0) (.slice none 0 0)) (by unfold execOp; simp only [e1, e2, zero6, cells6]; go_simp; rfl) ⟨undef, rfl, trivial, hI.put hL, trivial⟩
        · intro L a wa hL hI hs hd
          have e1 : a.eval (.tmp 19) = .int .i64 ta := hd.1
          exact op_val _ (w' := wa) (by unfold execOp; simp only [e1]; go_simp) ⟨_, rfl, rfl, hI.step (by decide), trivial⟩
        · intro L a wa hL hI hs hd
          have e1 : a.eval (.tmp 21) = .int .i64 te := hd.1
          exact op_val _ (w' := wa) (by unfold execOp; simp only [e1]; go_simp) ⟨_, rfl, rfl, hI.step (by decide), trivial⟩
      · intro vs L W2 hL hI hall
        simp only [allHold, gives] at hall
        obtain ⟨h0, h1, h2, h3, h4, h5, h6, h7, _⟩ := hall
        simp only [putL]
        generalize vs 0 = v0 at *
        generalize vs 1 = v1 at *
        generalize vs 2 = v2 at *
        generalize vs 3 = v3 at *
        generalize vs 4 = v4 at *
        generalize vs 5 = v5 at *
        generalize vs 6 = v6 at *
        generalize vs 7 = v7 at *
        subst v0 v1 v2 v3 v4 v6 v7
        have HVB := Keep.mk (hI.v1 (hL 5 (by decide)))
        have HBE := Keep.mk hI.b
        have r0 := HVB.out.box.cell 0 _ rfl
        have r1 := HVB.out.box.cell 1 _ rfl
        have r2 := HVB.out.box.cell 2 _ rfl
        have r3 := HVB.out.box.cell 3 _ rfl
        have r4 := HVB.out.box.cell 4 _ rfl
        have r5 := HVB.out.box.cell 5 _ rfl
        clear hI hL HPS
        go_wp2
        rw [outP_ret]
        refine bodyPost_ret (v := .tuple #[.agg (List.toArray zero6), .int .i64 ta, .int .i64 te]) ?_ rfl ⟨zero6, by rw [HE.out], by rw [HE.out]; exact zero_in _ _, HBE.out⟩
        simp [zero6, cells6, results, Tryz.results6, go_sem, r0, r1, r2, r3, r4, r5]
    case pos =>
    subst he
    have HRUN := Keep.mk H.out.run
    have HFU := Keep.mk H.out.fuel
    have HWT := Keep.mk H.out.wt
    have HLN := Keep.mk H.out.len
    have HBG := Keep.mk H.out.big
    have HTK := Keep.mk H.out.tok
    obtain ⟨A5, c5, e5, _, _⟩ := H.out.ps.o.form
    have e5 : sv = .slice A5 rs.length c5 := by simpa using e5
    have s0 : W.cell? ⟨w.heap.size + 1, 0, none⟩ = some (.slice A5 rs.length c5) := by rw [← e5]; exact cell_of_one HPS.out.s
    have hrl := Keep.mk H.out.ps.rows.len
    have HE5 := Keep.mk e5
    clear e5 H
    by_cases hsg : sg ≠ 0 ∧ sg ≠ 91 ∧ sg ≠ 123
    case pos =>
      have b1 : ((sg : Int) != 0) = true := by simp; omega
      have b2 : ((sg : Int) != 91) = true := by simp; omega
      have b3 : ((sg : Int) != 123) = true := by simp; omega
      have HE := Keep.mk (HRUN.out.symm.trans (val_sign _ _ _ _ _ _ rfl hsg))
      clear hsg
      have r0 := HPS.out.v.box.cell 0 _ rfl
      have r1 := HPS.out.v.box.cell 1 _ rfl
      have r2 := HPS.out.v.box.cell 2 _ rfl
      have r3 := HPS.out.v.box.cell 3 _ rfl
      have r4 := HPS.out.v.box.cell 4 _ rfl
      have r5 := HPS.out.v.box.cell 5 _ rfl
      have z0 := HPS.out.v.box.froz 0
      have z1 := HPS.out.v.box.froz 1
      have z2 := HPS.out.v.box.froz 2
      have z3 := HPS.out.v.box.froz 3
      have z4 := HPS.out.v.box.froz 4
      have z5 := HPS.out.v.box.froz 5
      have hsz := HPS.out.size
      have y0 : W.cell? ⟨w.heap.size + 2, 0, none⟩ = some (.int .u8 sg) := HPS.out.tb.cell 0 _ rfl
      have y1 : W.cell? ⟨w.heap.size + 2, 1, none⟩ = some (.int .i64 k) := HPS.out.tb.cell 1 _ rfl
      have y2 : W.cell? ⟨w.heap.size + 2, 2, none⟩ = some (.int .i64 m) := HPS.out.tb.cell 2 _ rfl
      have y3 : W.cell? ⟨w.heap.size + 2, 3, none⟩ = some (.int .i64 x) := HPS.out.tb.cell 3 _ rfl
      have y4 : W.cell? ⟨w.heap.size + 2, 4, none⟩ = some (.string ts) := HPS.out.tb.cell 4 _ rfl
      have y5 : W.cell? ⟨w.heap.size + 2, 5, none⟩ = some (.slice none 0 0) := HPS.out.tb.cell 5 _ rfl
      have y6 : W.cell? ⟨w.heap.size + 2, 6, none⟩ = some (.slice none 0 0) := HPS.out.tb.cell 6 _ rfl
      have y7 : W.cell? ⟨w.heap.size + 2, 7, none⟩ = some (.int .i64 ta) := HPS.out.tb.cell 7 _ rfl
      have y8 : W.cell? ⟨w.heap.size + 2, 8, none⟩ = some (.int .i64 tt) := HPS.out.tb.cell 8 _ rfl
      have y9 : W.cell? ⟨w.heap.size + 2, 9, none⟩ = some (.int .i64 0) := HPS.out.tb.cell 9 _ rfl
      have q0 := HPS.out.tb.froz 0
      have q1 := HPS.out.tb.froz 1
      have q2 := HPS.out.tb.froz 2
      have q3 := HPS.out.tb.froz 3
      have q4 := HPS.out.tb.froz 4
      have q5 := HPS.out.tb.froz 5
      have q6 := HPS.out.tb.froz 6
      have q7 := HPS.out.tb.froz 7
      have q8 := HPS.out.tb.froz 8
      have q9 := HPS.out.tb.froz 9
      go_wp2_with fail
      clear r0 r1 r2 r3 r4 r5 z0 z1 z2 z3 z4 z5 y0 y1 y2 y3 y4 y5 y6 y7 y8 y9 q0 q1 q2 q3 q4 q5 q6 q7 q8 q9 hsz 
      refine wp_region_every (ErrI w ⟨sg, k, m, x, ts, ta, tt, 0⟩ (cells6 k9 m9 e9 s9 A9 n9 c9 A8 n8 c8) 3) (fun
        | 0 => fun v _ => v = .agg (List.toArray zero6)
        | 1 => fun v _ => v = .pointer (some ⟨w.heap.size + 2, 7, none⟩)
        | 2 => fun v _ => v = .int .i64 ta
        | 3 => fun v _ => True
        | 4 => fun v _ => v = .int .i64 ta
        | 5 => fun v _ => v = .int .i64 60
        | _ => fun _ _ => True) (fun _ _ _ => True) (by kernel_rfl) (by kernel_rfl) (ErrI.new HPS.out) ?_ ?_ ?_
      · intro i j v w1 w2 _ _
        match j with
        | 0 | 1 | 2 | 3 | 4 | 5 => exact fun h => h
        | _ + 6 => exact fun h => h
      · simp only [stepHold]
        refine ⟨?_, ?_, ?_, ?_, ?_, ?_, trivial⟩
        · intro L a wa hL hI hs hd
          exact op_val _ (w' := wa) (by unfold execOp; go_simp; rfl) ⟨_, rfl, rfl, hI.step (by decide), trivial⟩
        · intro L a wa hL hI hs hd
          have e1 : a.eval (.tmp 6) = .pointer (some ⟨w.heap.size + 2, 0, none⟩) := hs 6 (by kernel_rfl)
          exact op_val _ (w' := wa) (by unfold execOp; simp only [e1]; go_simp) ⟨_, rfl, rfl, hI.step (by decide), trivial⟩
        · intro L a wa hL hI hs hd
          have e1 : a.eval (.tmp 37) = .pointer (some ⟨w.heap.size + 2, 7, none⟩) := hd.1
          have c0 : wa.cell? ⟨w.heap.size + 2, 7, none⟩ = some (.int .i64 ta) := hI.t.cell 7 _ rfl
          have hl := hI.t.lt
          exact op_val _ (w' := wa) (by unfold execOp; simp only [e1]; go_simp) ⟨_, rfl, rfl, hI.step (by decide), trivial⟩
        · intro L a wa hL hI hs hd
          have e1 : a.eval (.tmp 2) = .pointer (some ⟨w.heap.size, 0, none⟩) := hs 2 (by kernel_rfl)
          have e2 : a.eval (.tmp 36) = .agg (List.toArray zero6) := hd.1
          have hb := (hI.v0 hL).box
          have z0 := hb.froz 0
          have z1 := hb.froz 1
          have z2 := hb.froz 2
          have z3 := hb.froz 3
          have z4 := hb.froz 4
          have z5 := hb.froz 5
          have c0 := hb.cell 0 _ rfl
          have c1 := hb.cell 1 _ rfl
          have c2 := hb.cell 2 _ rfl
          have c3 := hb.cell 3 _ rfl
          have c4 := hb.cell 4 _ rfl
          have c5 := hb.cell 5 _ rfl
          have hl := hb.lt
          exact op_skip (w' := six wa w.heap.size (.int .i64 0) (.int .i64 0) (.int .i64 0) (.string ⟨#[]⟩) (.slice none 0 0) (.slice none 0 0)) (by unfold execOp; simp only [e1, e2, zero6, cells6]; go_simp; rfl) ⟨undef, rfl, trivial, hI.put hL, trivial⟩
        · intro L a wa hL hI hs hd
          have e1 : a.eval (.tmp 38) = .int .i64 ta := hd.1
          exact op_val _ (w' := wa) (by unfold execOp; simp only [e1]; go_simp) ⟨_, rfl, rfl, hI.step (by decide), trivial⟩
        · intro L a wa hL hI hs hd
          exact op_val _ (w' := wa) (by unfold execOp; go_simp) ⟨_, rfl, rfl, hI.step (by decide), trivial⟩
      · intro vs L W2 hL hI hall
        simp only [allHold, gives] at hall
        obtain ⟨h0, h1, h2, h3, h4, h5, _⟩ := hall
        simp only [putL]
        generalize vs 0 = v0 at *
        generalize vs 1 = v1 at *
        generalize vs 2 = v2 at *
        generalize vs 3 = v3 at *
        generalize vs 4 = v4 at *
        generalize vs 5 = v5 at *
        subst v0 v1 v2 v4 v5
        have HVB := Keep.mk (hI.v1 (hL 3 (by decide)))
        have HBE := Keep.mk hI.b
        have r0 := HVB.out.box.cell 0 _ rfl
        have r1 := HVB.out.box.cell 1 _ rfl
        have r2 := HVB.out.box.cell 2 _ rfl
        have r3 := HVB.out.box.cell 3 _ rfl
        have r4 := HVB.out.box.cell 4 _ rfl
        have r5 := HVB.out.box.cell 5 _ rfl
        clear hI hL HPS
        go_wp2
        rw [outP_ret]
        refine bodyPost_ret (v := .tuple #[.agg (List.toArray zero6), .int .i64 ta, .int .i64 60]) ?_ rfl ⟨zero6, by rw [HE.out], by rw [HE.out]; exact zero_in _ _, HBE.out⟩
        simp [zero6, cells6, results, Tryz.results6, go_sem, r0, r1, r2, r3, r4, r5]
    case neg =>
    have hsg : sg = 0 ∨ sg = 91 ∨ sg = 123 := by omega
    rcases hsg with rfl | hsg
    · 
      by_cases h48 : st.length = 48
      case pos =>
        have b4 : ((rs.length : Int) == 48) = true := by have := hrl.out; simp; omega
        have HE := Keep.mk (HRUN.out.symm.trans (val_deep _ _ _ _ _ _ rfl (by simp) h48))
        clear h48
        have r0 := HPS.out.v.box.cell 0 _ rfl
        have r1 := HPS.out.v.box.cell 1 _ rfl
        have r2 := HPS.out.v.box.cell 2 _ rfl
        have r3 := HPS.out.v.box.cell 3 _ rfl
        have r4 := HPS.out.v.box.cell 4 _ rfl
        have r5 := HPS.out.v.box.cell 5 _ rfl
        have z0 := HPS.out.v.box.froz 0
        have z1 := HPS.out.v.box.froz 1
        have z2 := HPS.out.v.box.froz 2
        have z3 := HPS.out.v.box.froz 3
        have z4 := HPS.out.v.box.froz 4
        have z5 := HPS.out.v.box.froz 5
        have hsz := HPS.out.size
        have y0 : W.cell? ⟨w.heap.size + 2, 0, none⟩ = some (.int .u8 0) := HPS.out.tb.cell 0 _ rfl
        have y1 : W.cell? ⟨w.heap.size + 2, 1, none⟩ = some (.int .i64 k) := HPS.out.tb.cell 1 _ rfl
        have y2 : W.cell? ⟨w.heap.size + 2, 2, none⟩ = some (.int .i64 m) := HPS.out.tb.cell 2 _ rfl
        have y3 : W.cell? ⟨w.heap.size + 2, 3, none⟩ = some (.int .i64 x) := HPS.out.tb.cell 3 _ rfl
        have y4 : W.cell? ⟨w.heap.size + 2, 4, none⟩ = some (.string ts) := HPS.out.tb.cell 4 _ rfl
        have y5 : W.cell? ⟨w.heap.size + 2, 5, none⟩ = some (.slice none 0 0) := HPS.out.tb.cell 5 _ rfl
        have y6 : W.cell? ⟨w.heap.size + 2, 6, none⟩ = some (.slice none 0 0) := HPS.out.tb.cell 6 _ rfl
        have y7 : W.cell? ⟨w.heap.size + 2, 7, none⟩ = some (.int .i64 ta) := HPS.out.tb.cell 7 _ rfl
        have y8 : W.cell? ⟨w.heap.size + 2, 8, none⟩ = some (.int .i64 tt) := HPS.out.tb.cell 8 _ rfl
        have y9 : W.cell? ⟨w.heap.size + 2, 9, none⟩ = some (.int .i64 0) := HPS.out.tb.cell 9 _ rfl
        have q0 := HPS.out.tb.froz 0
        have q1 := HPS.out.tb.froz 1
        have q2 := HPS.out.tb.froz 2
        have q3 := HPS.out.tb.froz 3
        have q4 := HPS.out.tb.froz 4
        have q5 := HPS.out.tb.froz 5
        have q6 := HPS.out.tb.froz 6
        have q7 := HPS.out.tb.froz 7
        have q8 := HPS.out.tb.froz 8
        have q9 := HPS.out.tb.froz 9
        go_wp2_with fail
        clear r0 r1 r2 r3 r4 r5 z0 z1 z2 z3 z4 z5 y0 y1 y2 y3 y4 y5 y6 y7 y8 y9 q0 q1 q2 q3 q4 q5 q6 q7 q8 q9 hsz 
        refine wp_region_every (ErrI w ⟨0, k, m, x, ts, ta, tt, 0⟩ (cells6 k9 m9 e9 s9 A9 n9 c9 A8 n8 c8) 3) (fun
          | 0 => fun v _ => v = .agg (List.toArray zero6)
          | 1 => fun v _ => v = .pointer (some ⟨w.heap.size + 2, 7, none⟩)
          | 2 => fun v _ => v = .int .i64 ta
          | 3 => fun v _ => True
          | 4 => fun v _ => v = .int .i64 ta
          | 5 => fun v _ => v = .int .i64 31
          | _ => fun _ _ => True) (fun _ _ _ => True) (by kernel_rfl) (by kernel_rfl) (ErrI.new HPS.out) ?_ ?_ ?_
        · intro i j v w1 w2 _ _
          match j with
          | 0 | 1 | 2 | 3 | 4 | 5 => exact fun h => h
          | _ + 6 => exact fun h => h
        · simp only [stepHold]
          refine ⟨?_, ?_, ?_, ?_, ?_, ?_, trivial⟩
          · intro L a wa hL hI hs hd
            exact op_val _ (w' := wa) (by unfold execOp; go_simp; rfl) ⟨_, rfl, rfl, hI.step (by decide), trivial⟩
          · intro L a wa hL hI hs hd
            have e1 : a.eval (.tmp 6) = .pointer (some ⟨w.heap.size + 2, 0, none⟩) := hs 6 (by kernel_rfl)
            exact op_val _ (w' := wa) (by unfold execOp; simp only [e1]; go_simp) ⟨_, rfl, rfl, hI.step (by decide), trivial⟩
          · intro L a wa hL hI hs hd
            have e1 : a.eval (.tmp 45) = .pointer (some ⟨w.heap.size + 2, 7, none⟩) := hd.1
            have c0 : wa.cell? ⟨w.heap.size + 2, 7, none⟩ = some (.int .i64 ta) := hI.t.cell 7 _ rfl
            have hl := hI.t.lt
            exact op_val _ (w' := wa) (by unfold execOp; simp only [e1]; go_simp) ⟨_, rfl, rfl, hI.step (by decide), trivial⟩
          · intro L a wa hL hI hs hd
            have e1 : a.eval (.tmp 2) = .pointer (some ⟨w.heap.size, 0, none⟩) := hs 2 (by kernel_rfl)
            have e2 : a.eval (.tmp 44) = .agg (List.toArray zero6) := hd.1
            have hb := (hI.v0 hL).box
            have z0 := hb.froz 0
            have z1 := hb.froz 1
            have z2 := hb.froz 2
            have z3 := hb.froz 3
            have z4 := hb.froz 4
            have z5 := hb.froz 5
            have c0 := hb.cell 0 _ rfl
            have c1 := hb.cell 1 _ rfl
            have c2 := hb.cell 2 _ rfl
            have c3 := hb.cell 3 _ rfl
            have c4 := hb.cell 4 _ rfl
            have c5 := hb.cell 5 _ rfl
            have hl := hb.lt
            exact op_skip (w' := six wa w.heap.size (.int .i64 0) (.int .i64 0) (.int .i64 0) (.string ⟨#[]⟩) (.slice none 0 0) (.slice none 0 0)) (by unfold execOp; simp only [e1, e2, zero6, cells6]; go_simp; rfl) ⟨undef, rfl, trivial, hI.put hL, trivial⟩
          · intro L a wa hL hI hs hd
            have e1 : a.eval (.tmp 46) = .int .i64 ta := hd.1
            exact op_val _ (w' := wa) (by unfold execOp; simp only [e1]; go_simp) ⟨_, rfl, rfl, hI.step (by decide), trivial⟩
          · intro L a wa hL hI hs hd
            exact op_val _ (w' := wa) (by unfold execOp; go_simp) ⟨_, rfl, rfl, hI.step (by decide), trivial⟩
        · intro vs L W2 hL hI hall
          simp only [allHold, gives] at hall
          obtain ⟨h0, h1, h2, h3, h4, h5, _⟩ := hall
          simp only [putL]
          generalize vs 0 = v0 at *
          generalize vs 1 = v1 at *
          generalize vs 2 = v2 at *
          generalize vs 3 = v3 at *
          generalize vs 4 = v4 at *
          generalize vs 5 = v5 at *
          subst v0 v1 v2 v4 v5
          have HVB := Keep.mk (hI.v1 (hL 3 (by decide)))
          have HBE := Keep.mk hI.b
          have r0 := HVB.out.box.cell 0 _ rfl
          have r1 := HVB.out.box.cell 1 _ rfl
          have r2 := HVB.out.box.cell 2 _ rfl
          have r3 := HVB.out.box.cell 3 _ rfl
          have r4 := HVB.out.box.cell 4 _ rfl
          have r5 := HVB.out.box.cell 5 _ rfl
          clear hI hL HPS
          go_wp2
          rw [outP_ret]
          refine bodyPost_ret (v := .tuple #[.agg (List.toArray zero6), .int .i64 ta, .int .i64 31]) ?_ rfl ⟨zero6, by rw [HE.out], by rw [HE.out]; exact zero_in _ _, HBE.out⟩
          simp [zero6, cells6, results, Tryz.results6, go_sem, r0, r1, r2, r3, r4, r5]
      case neg =>
      have b4 : ((rs.length : Int) == 48) = false := by have := hrl.out; simp; omega
      have H48 := Keep.mk h48
      clear h48
      have r0 := HPS.out.v.box.cell 0 _ rfl
      have r1 := HPS.out.v.box.cell 1 _ rfl
      have r2 := HPS.out.v.box.cell 2 _ rfl
      have r3 := HPS.out.v.box.cell 3 _ rfl
      have r4 := HPS.out.v.box.cell 4 _ rfl
      have r5 := HPS.out.v.box.cell 5 _ rfl
      have z0 := HPS.out.v.box.froz 0
      have z1 := HPS.out.v.box.froz 1
      have z2 := HPS.out.v.box.froz 2
      have z3 := HPS.out.v.box.froz 3
      have z4 := HPS.out.v.box.froz 4
      have z5 := HPS.out.v.box.froz 5
      have hsz := HPS.out.size
      have y0 : W.cell? ⟨w.heap.size + 2, 0, none⟩ = some (.int .u8 0) := HPS.out.tb.cell 0 _ rfl
      have y1 : W.cell? ⟨w.heap.size + 2, 1, none⟩ = some (.int .i64 k) := HPS.out.tb.cell 1 _ rfl
      have y2 : W.cell? ⟨w.heap.size + 2, 2, none⟩ = some (.int .i64 m) := HPS.out.tb.cell 2 _ rfl
      have y3 : W.cell? ⟨w.heap.size + 2, 3, none⟩ = some (.int .i64 x) := HPS.out.tb.cell 3 _ rfl
      have y4 : W.cell? ⟨w.heap.size + 2, 4, none⟩ = some (.string ts) := HPS.out.tb.cell 4 _ rfl
      have y5 : W.cell? ⟨w.heap.size + 2, 5, none⟩ = some (.slice none 0 0) := HPS.out.tb.cell 5 _ rfl
      have y6 : W.cell? ⟨w.heap.size + 2, 6, none⟩ = some (.slice none 0 0) := HPS.out.tb.cell 6 _ rfl
      have y7 : W.cell? ⟨w.heap.size + 2, 7, none⟩ = some (.int .i64 ta) := HPS.out.tb.cell 7 _ rfl
      have y8 : W.cell? ⟨w.heap.size + 2, 8, none⟩ = some (.int .i64 tt) := HPS.out.tb.cell 8 _ rfl
      have y9 : W.cell? ⟨w.heap.size + 2, 9, none⟩ = some (.int .i64 0) := HPS.out.tb.cell 9 _ rfl
      have q0 := HPS.out.tb.froz 0
      have q1 := HPS.out.tb.froz 1
      have q2 := HPS.out.tb.froz 2
      have q3 := HPS.out.tb.froz 3
      have q4 := HPS.out.tb.froz 4
      have q5 := HPS.out.tb.froz 5
      have q6 := HPS.out.tb.froz 6
      have q7 := HPS.out.tb.froz 7
      have q8 := HPS.out.tb.froz 8
      have q9 := HPS.out.tb.froz 9
      have hts : ts.size ≤ 140737488351232 := by have h1 : ta + 1 + ts.size ≤ tt := HT.out.wt rfl (show (0 : Nat) ≠ 255 by decide); have h2 : tt ≤ s.data.toList.length := HT.out.to_; have := HL.out; omega
      have HI : Keep (I64 k ∧ I64 m ∧ I64 x) := by
        obtain ⟨p0, _, hp0⟩ := HTK.out
        have h := tok_i64 s.data.toList p0
        rw [← hp0] at h
        exact ⟨h⟩
      have HPS3 := Keep.mk (HPS.out.val rfl (.int .i64 k) (.int .i64 m) (.int .i64 x) (.string ts) (.slice none 0 0) (.slice none 0 0))
      have HJ3 := Keep.mk (show JIn (six W w.heap.size (.int .i64 k) (.int .i64 m) (.int .i64 x) (.string ts) (.slice none 0 0) (.slice none 0 0)) (Still (six W w.heap.size (.int .i64 k) (.int .i64 m) (.int .i64 x) (.string ts) (.slice none 0 0) (.slice none 0 0)) (w.heap.size + 3) sv rs) (.mk k m x ts [] []) (cells6 k m x ts none 0 0 none 0 0) from
        JIn.shut (l := []) (ks := []) HI.out.1 HI.out.2.1 HI.out.2.2 hts (StrsIn.none_ _ _) (ValsIn.none_ _ _))
      go_upto_region 14 with fail
      refine wp_world (fun W => PS w W st rs sv ⟨0, k, m, x, ts, ta, tt, 0⟩ (cells6 k m x ts none 0 0 none 0 0) ∧ JIn W (Still W (w.heap.size + 3) sv rs) (.mk k m x ts [] []) (cells6 k m x ts none 0 0 none 0 0)) ⟨HPS3.out, HJ3.out⟩ ?_
      clear r0 r1 r2 r3 r4 r5 z0 z1 z2 z3 z4 z5 y0 y1 y2 y3 y4 y5 y6 y7 y8 y9 q0 q1 q2 q3 q4 q5 q6 q7 q8 q9 hsz HPS3 HJ3 HPS s0 hts
      rintro W4 ⟨HPS4, HJ4⟩
      replace HPS4 := Keep.mk HPS4
      replace HJ4 := Keep.mk HJ4
      have HNX := Keep.mk (fun (W' : World) (hg : GlobV W') => read_next s hs tt (by have h2 : tt ≤ s.data.toList.length := HT.out.to_; have := HL.out; omega) W' hg)
      have yt : W4.cell? ⟨w.heap.size + 2, 8, none⟩ = some (.int .i64 tt) := HPS4.out.tb.cell 8 _ rfl
      have hszA := HPS4.out.size
      go_wp2_with fail
      refine (HNX.out _ HPS4.out.gg).mono ?_
      rintro rn Wn ⟨rfl, hbn⟩
      have HPSn := Keep.mk (HPS4.out.below hbn)
      obtain ⟨t5, htn⟩ : ∃ t, nextT s.data.toList tt = t := ⟨_, rfl⟩
      rw [htn]
      have HN5 := Keep.mk htn
      have HT5 := Keep.mk (by have h := next_tokF s.data.toList tt HT.out.to_; rw [htn] at h; exact h)
      have HJn := Keep.mk (Still.jin hbn HJ4.out)
      clear htn hbn hszA HPS4 HNX yt
      have q0 := HPSn.out.tb.froz 0
      have q1 := HPSn.out.tb.froz 1
      have q2 := HPSn.out.tb.froz 2
      have q3 := HPSn.out.tb.froz 3
      have q4 := HPSn.out.tb.froz 4
      have q5 := HPSn.out.tb.froz 5
      have q6 := HPSn.out.tb.froz 6
      have q7 := HPSn.out.tb.froz 7
      have q8 := HPSn.out.tb.froz 8
      have q9 := HPSn.out.tb.froz 9
      have y0 := HPSn.out.tb.cell 0 _ rfl
      have y1 := HPSn.out.tb.cell 1 _ rfl
      have y2 := HPSn.out.tb.cell 2 _ rfl
      have y3 := HPSn.out.tb.cell 3 _ rfl
      have y4 := HPSn.out.tb.cell 4 _ rfl
      have y5 := HPSn.out.tb.cell 5 _ rfl
      have y6 := HPSn.out.tb.cell 6 _ rfl
      have y7 := HPSn.out.tb.cell 7 _ rfl
      have y8 := HPSn.out.tb.cell 8 _ rfl
      have y9 := HPSn.out.tb.cell 9 _ rfl
      have hsn := HPSn.out.size
      simp only [tokC]
      have hk1 : ta + 1 + ts.size ≤ tt := HT.out.wt rfl (show (0 : Nat) ≠ 255 by decide)
      have hk4 := HT5.out.2
      have hk5 := HT5.out.1.at_
      go_wp2
      go_step3
      try simp only [Exit.then, Exit.inBlock]
      refine outBy_goto (by simp [four]) ⟨f, Nat.lt_succ_self f, FrameP.mk .., _, _, t5, _, sv, _, HBG.out, HPSn.out.tok t5, ⟨_, _, _, _, _, _, _, _, _, _, rfl⟩, ((val_tok _ _ _ _ _ _ _ HN5.out rfl rfl H48.out).symm.trans HRUN.out), ?_, ⟨tt, HT.out.to_, HN5.out.symm⟩, HLN.out, ?_, (fun _ => (low_ten t5).jin HJn.out), (fun h => by rcases h with h | h <;> cases h), (fun h => by cases h)⟩
      · have h1 := HFU.out
        simp only [wantP, phL] at h1 ⊢
        omega
      · have h1 : weighS st + 0 ≤ ta := HWT.out
        show weighS st + (1 + ts.size + 0 + 0) ≤ t5.at_
        omega
    rcases hsg with rfl | rfl
    · 
      by_cases h48 : st.length = 48
      case pos =>
        have b4 : ((rs.length : Int) == 48) = true := by have := hrl.out; simp; omega
        have HE := Keep.mk (HRUN.out.symm.trans (val_deep _ _ _ _ _ _ rfl (by simp) h48))
        clear h48
        have r0 := HPS.out.v.box.cell 0 _ rfl
        have r1 := HPS.out.v.box.cell 1 _ rfl
        have r2 := HPS.out.v.box.cell 2 _ rfl
        have r3 := HPS.out.v.box.cell 3 _ rfl
        have r4 := HPS.out.v.box.cell 4 _ rfl
        have r5 := HPS.out.v.box.cell 5 _ rfl
        have z0 := HPS.out.v.box.froz 0
        have z1 := HPS.out.v.box.froz 1
        have z2 := HPS.out.v.box.froz 2
        have z3 := HPS.out.v.box.froz 3
        have z4 := HPS.out.v.box.froz 4
        have z5 := HPS.out.v.box.froz 5
        have hsz := HPS.out.size
        have y0 : W.cell? ⟨w.heap.size + 2, 0, none⟩ = some (.int .u8 91) := HPS.out.tb.cell 0 _ rfl
        have y1 : W.cell? ⟨w.heap.size + 2, 1, none⟩ = some (.int .i64 k) := HPS.out.tb.cell 1 _ rfl
        have y2 : W.cell? ⟨w.heap.size + 2, 2, none⟩ = some (.int .i64 m) := HPS.out.tb.cell 2 _ rfl
        have y3 : W.cell? ⟨w.heap.size + 2, 3, none⟩ = some (.int .i64 x) := HPS.out.tb.cell 3 _ rfl
        have y4 : W.cell? ⟨w.heap.size + 2, 4, none⟩ = some (.string ts) := HPS.out.tb.cell 4 _ rfl
        have y5 : W.cell? ⟨w.heap.size + 2, 5, none⟩ = some (.slice none 0 0) := HPS.out.tb.cell 5 _ rfl
        have y6 : W.cell? ⟨w.heap.size + 2, 6, none⟩ = some (.slice none 0 0) := HPS.out.tb.cell 6 _ rfl
        have y7 : W.cell? ⟨w.heap.size + 2, 7, none⟩ = some (.int .i64 ta) := HPS.out.tb.cell 7 _ rfl
        have y8 : W.cell? ⟨w.heap.size + 2, 8, none⟩ = some (.int .i64 tt) := HPS.out.tb.cell 8 _ rfl
        have y9 : W.cell? ⟨w.heap.size + 2, 9, none⟩ = some (.int .i64 0) := HPS.out.tb.cell 9 _ rfl
        have q0 := HPS.out.tb.froz 0
        have q1 := HPS.out.tb.froz 1
        have q2 := HPS.out.tb.froz 2
        have q3 := HPS.out.tb.froz 3
        have q4 := HPS.out.tb.froz 4
        have q5 := HPS.out.tb.froz 5
        have q6 := HPS.out.tb.froz 6
        have q7 := HPS.out.tb.froz 7
        have q8 := HPS.out.tb.froz 8
        have q9 := HPS.out.tb.froz 9
        go_wp2_with fail
        clear r0 r1 r2 r3 r4 r5 z0 z1 z2 z3 z4 z5 y0 y1 y2 y3 y4 y5 y6 y7 y8 y9 q0 q1 q2 q3 q4 q5 q6 q7 q8 q9 hsz 
        refine wp_region_every (ErrI w ⟨91, k, m, x, ts, ta, tt, 0⟩ (cells6 k9 m9 e9 s9 A9 n9 c9 A8 n8 c8) 3) (fun
          | 0 => fun v _ => v = .agg (List.toArray zero6)
          | 1 => fun v _ => v = .pointer (some ⟨w.heap.size + 2, 7, none⟩)
          | 2 => fun v _ => v = .int .i64 ta
          | 3 => fun v _ => True
          | 4 => fun v _ => v = .int .i64 ta
          | 5 => fun v _ => v = .int .i64 31
          | _ => fun _ _ => True) (fun _ _ _ => True) (by kernel_rfl) (by kernel_rfl) (ErrI.new HPS.out) ?_ ?_ ?_
        · intro i j v w1 w2 _ _
          match j with
          | 0 | 1 | 2 | 3 | 4 | 5 => exact fun h => h
          | _ + 6 => exact fun h => h
        · simp only [stepHold]
          refine ⟨?_, ?_, ?_, ?_, ?_, ?_, trivial⟩
          · intro L a wa hL hI hs hd
            exact op_val _ (w' := wa) (by unfold execOp; go_simp; rfl) ⟨_, rfl, rfl, hI.step (by decide), trivial⟩
          · intro L a wa hL hI hs hd
            have e1 : a.eval (.tmp 6) = .pointer (some ⟨w.heap.size + 2, 0, none⟩) := hs 6 (by kernel_rfl)
            exact op_val _ (w' := wa) (by unfold execOp; simp only [e1]; go_simp) ⟨_, rfl, rfl, hI.step (by decide), trivial⟩
          · intro L a wa hL hI hs hd
            have e1 : a.eval (.tmp 45) = .pointer (some ⟨w.heap.size + 2, 7, none⟩) := hd.1
            have c0 : wa.cell? ⟨w.heap.size + 2, 7, none⟩ = some (.int .i64 ta) := hI.t.cell 7 _ rfl
            have hl := hI.t.lt
            exact op_val _ (w' := wa) (by unfold execOp; simp only [e1]; go_simp) ⟨_, rfl, rfl, hI.step (by decide), trivial⟩
          · intro L a wa hL hI hs hd
            have e1 : a.eval (.tmp 2) = .pointer (some ⟨w.heap.size, 0, none⟩) := hs 2 (by kernel_rfl)
            have e2 : a.eval (.tmp 44) = .agg (List.toArray zero6) := hd.1
            have hb := (hI.v0 hL).box
            have z0 := hb.froz 0
            have z1 := hb.froz 1
            have z2 := hb.froz 2
            have z3 := hb.froz 3
            have z4 := hb.froz 4
            have z5 := hb.froz 5
            have c0 := hb.cell 0 _ rfl
            have c1 := hb.cell 1 _ rfl
            have c2 := hb.cell 2 _ rfl
            have c3 := hb.cell 3 _ rfl
            have c4 := hb.cell 4 _ rfl
            have c5 := hb.cell 5 _ rfl
            have hl := hb.lt
            exact op_skip (w' := six wa w.heap.size (.int .i64 0) (.int .i64 0) (.int .i64 0) (.string ⟨#[]⟩) (.slice none 0 0) (.slice none 0 0)) (by unfold execOp; simp only [e1, e2, zero6, cells6]; go_simp; rfl) ⟨undef, rfl, trivial, hI.put hL, trivial⟩
          · intro L a wa hL hI hs hd
            have e1 : a.eval (.tmp 46) = .int .i64 ta := hd.1
            exact op_val _ (w' := wa) (by unfold execOp; simp only [e1]; go_simp) ⟨_, rfl, rfl, hI.step (by decide), trivial⟩
          · intro L a wa hL hI hs hd
            exact op_val _ (w' := wa) (by unfold execOp; go_simp) ⟨_, rfl, rfl, hI.step (by decide), trivial⟩
        · intro vs L W2 hL hI hall
          simp only [allHold, gives] at hall
          obtain ⟨h0, h1, h2, h3, h4, h5, _⟩ := hall
          simp only [putL]
          generalize vs 0 = v0 at *
          generalize vs 1 = v1 at *
          generalize vs 2 = v2 at *
          generalize vs 3 = v3 at *
          generalize vs 4 = v4 at *
          generalize vs 5 = v5 at *
          subst v0 v1 v2 v4 v5
          have HVB := Keep.mk (hI.v1 (hL 3 (by decide)))
          have HBE := Keep.mk hI.b
          have r0 := HVB.out.box.cell 0 _ rfl
          have r1 := HVB.out.box.cell 1 _ rfl
          have r2 := HVB.out.box.cell 2 _ rfl
          have r3 := HVB.out.box.cell 3 _ rfl
          have r4 := HVB.out.box.cell 4 _ rfl
          have r5 := HVB.out.box.cell 5 _ rfl
          clear hI hL HPS
          go_wp2
          rw [outP_ret]
          refine bodyPost_ret (v := .tuple #[.agg (List.toArray zero6), .int .i64 ta, .int .i64 31]) ?_ rfl ⟨zero6, by rw [HE.out], by rw [HE.out]; exact zero_in _ _, HBE.out⟩
          simp [zero6, cells6, results, Tryz.results6, go_sem, r0, r1, r2, r3, r4, r5]
      case neg =>
      have b4 : ((rs.length : Int) == 48) = false := by have := hrl.out; simp; omega
      have H48 := Keep.mk h48
      clear h48
      have HPSH := Keep.mk (fun (W' : World) (h1 : W'.heap[w.heap.size + 1]? = some (.cells #[sv] 42 (0, 0))) (h2 : OpensAt W' (w.heap.size + 3) sv rs.reverse) (h3 : w.heap.size + 3 ≤ W'.heap.size) => stack_push (w.heap.size + 1) sv rs.reverse (w.heap.size + 3) W' h1 h2 (by have := hrl.out; have := HLN.out; simp; omega) (by omega) h3)
      have HLN2 := Keep.mk (show (⟨5, [], []⟩ :: st : List OJ).length ≤ 48 by have := HLN.out; have := H48.out; simp only [List.length_cons]; omega)
      have r0 := HPS.out.v.box.cell 0 _ rfl
      have r1 := HPS.out.v.box.cell 1 _ rfl
      have r2 := HPS.out.v.box.cell 2 _ rfl
      have r3 := HPS.out.v.box.cell 3 _ rfl
      have r4 := HPS.out.v.box.cell 4 _ rfl
      have r5 := HPS.out.v.box.cell 5 _ rfl
      have z0 := HPS.out.v.box.froz 0
      have z1 := HPS.out.v.box.froz 1
      have z2 := HPS.out.v.box.froz 2
      have z3 := HPS.out.v.box.froz 3
      have z4 := HPS.out.v.box.froz 4
      have z5 := HPS.out.v.box.froz 5
      have hsz := HPS.out.size
      have y0 : W.cell? ⟨w.heap.size + 2, 0, none⟩ = some (.int .u8 91) := HPS.out.tb.cell 0 _ rfl
      have y1 : W.cell? ⟨w.heap.size + 2, 1, none⟩ = some (.int .i64 k) := HPS.out.tb.cell 1 _ rfl
      have y2 : W.cell? ⟨w.heap.size + 2, 2, none⟩ = some (.int .i64 m) := HPS.out.tb.cell 2 _ rfl
      have y3 : W.cell? ⟨w.heap.size + 2, 3, none⟩ = some (.int .i64 x) := HPS.out.tb.cell 3 _ rfl
      have y4 : W.cell? ⟨w.heap.size + 2, 4, none⟩ = some (.string ts) := HPS.out.tb.cell 4 _ rfl
      have y5 : W.cell? ⟨w.heap.size + 2, 5, none⟩ = some (.slice none 0 0) := HPS.out.tb.cell 5 _ rfl
      have y6 : W.cell? ⟨w.heap.size + 2, 6, none⟩ = some (.slice none 0 0) := HPS.out.tb.cell 6 _ rfl
      have y7 : W.cell? ⟨w.heap.size + 2, 7, none⟩ = some (.int .i64 ta) := HPS.out.tb.cell 7 _ rfl
      have y8 : W.cell? ⟨w.heap.size + 2, 8, none⟩ = some (.int .i64 tt) := HPS.out.tb.cell 8 _ rfl
      have y9 : W.cell? ⟨w.heap.size + 2, 9, none⟩ = some (.int .i64 0) := HPS.out.tb.cell 9 _ rfl
      have q0 := HPS.out.tb.froz 0
      have q1 := HPS.out.tb.froz 1
      have q2 := HPS.out.tb.froz 2
      have q3 := HPS.out.tb.froz 3
      have q4 := HPS.out.tb.froz 4
      have q5 := HPS.out.tb.froz 5
      have q6 := HPS.out.tb.froz 6
      have q7 := HPS.out.tb.froz 7
      have q8 := HPS.out.tb.froz 8
      have q9 := HPS.out.tb.froz 9
      go_wp2_with fail
      refine (HPSH.out _ HPS.out.s HPS.out.o HPS.out.size).mono ?_
      rintro rn W1 ⟨rfl, sv1, hs1, hO1, hT1, hn1⟩
      have HPS1 := Keep.mk (HPS.out.push hT1 hs1 hO1 hn1)
      clear hs1 hO1 hT1 hn1 HPSH s0 b4
      clear y0 y1 y2 y3 y4 y5 y6 y7 y8 y9 q0 q1 q2 q3 q4 q5 q6 q7 q8 q9 hsz r0 r1 r2 r3 r4 r5 z0 z1 z2 z3 z4 z5
      have hsz := HPS1.out.size
      have y0 : W1.cell? ⟨w.heap.size + 2, 0, none⟩ = some (.int .u8 91) := HPS1.out.tb.cell 0 _ rfl
      have y1 : W1.cell? ⟨w.heap.size + 2, 1, none⟩ = some (.int .i64 k) := HPS1.out.tb.cell 1 _ rfl
      have y2 : W1.cell? ⟨w.heap.size + 2, 2, none⟩ = some (.int .i64 m) := HPS1.out.tb.cell 2 _ rfl
      have y3 : W1.cell? ⟨w.heap.size + 2, 3, none⟩ = some (.int .i64 x) := HPS1.out.tb.cell 3 _ rfl
      have y4 : W1.cell? ⟨w.heap.size + 2, 4, none⟩ = some (.string ts) := HPS1.out.tb.cell 4 _ rfl
      have y5 : W1.cell? ⟨w.heap.size + 2, 5, none⟩ = some (.slice none 0 0) := HPS1.out.tb.cell 5 _ rfl
      have y6 : W1.cell? ⟨w.heap.size + 2, 6, none⟩ = some (.slice none 0 0) := HPS1.out.tb.cell 6 _ rfl
      have y7 : W1.cell? ⟨w.heap.size + 2, 7, none⟩ = some (.int .i64 ta) := HPS1.out.tb.cell 7 _ rfl
      have y8 : W1.cell? ⟨w.heap.size + 2, 8, none⟩ = some (.int .i64 tt) := HPS1.out.tb.cell 8 _ rfl
      have y9 : W1.cell? ⟨w.heap.size + 2, 9, none⟩ = some (.int .i64 0) := HPS1.out.tb.cell 9 _ rfl
      have q0 := HPS1.out.tb.froz 0
      have q1 := HPS1.out.tb.froz 1
      have q2 := HPS1.out.tb.froz 2
      have q3 := HPS1.out.tb.froz 3
      have q4 := HPS1.out.tb.froz 4
      have q5 := HPS1.out.tb.froz 5
      have q6 := HPS1.out.tb.froz 6
      have q7 := HPS1.out.tb.froz 7
      have q8 := HPS1.out.tb.froz 8
      have q9 := HPS1.out.tb.froz 9
      have HNX := Keep.mk (fun (W' : World) (hg : GlobV W') => read_next s hs tt (by have h2 : tt ≤ s.data.toList.length := HT.out.to_; have := HL.out; omega) W' hg)
      have yt : W1.cell? ⟨w.heap.size + 2, 8, none⟩ = some (.int .i64 tt) := HPS1.out.tb.cell 8 _ rfl
      have hszA := HPS1.out.size
      go_wp2_with fail
      refine (HNX.out _ HPS1.out.gg).mono ?_
      rintro rn Wn ⟨rfl, hbn⟩
      have HPSn := Keep.mk (HPS1.out.below hbn)
      obtain ⟨t4, htn⟩ : ∃ t, nextT s.data.toList tt = t := ⟨_, rfl⟩
      rw [htn]
      have HN4 := Keep.mk htn
      have HT4 := Keep.mk (by have h := next_tokF s.data.toList tt HT.out.to_; rw [htn] at h; exact h)
      clear htn hbn hszA HPS1 HNX yt
      have q0 := HPSn.out.tb.froz 0
      have q1 := HPSn.out.tb.froz 1
      have q2 := HPSn.out.tb.froz 2
      have q3 := HPSn.out.tb.froz 3
      have q4 := HPSn.out.tb.froz 4
      have q5 := HPSn.out.tb.froz 5
      have q6 := HPSn.out.tb.froz 6
      have q7 := HPSn.out.tb.froz 7
      have q8 := HPSn.out.tb.froz 8
      have q9 := HPSn.out.tb.froz 9
      have y0 := HPSn.out.tb.cell 0 _ rfl
      have y1 := HPSn.out.tb.cell 1 _ rfl
      have y2 := HPSn.out.tb.cell 2 _ rfl
      have y3 := HPSn.out.tb.cell 3 _ rfl
      have y4 := HPSn.out.tb.cell 4 _ rfl
      have y5 := HPSn.out.tb.cell 5 _ rfl
      have y6 := HPSn.out.tb.cell 6 _ rfl
      have y7 := HPSn.out.tb.cell 7 _ rfl
      have y8 := HPSn.out.tb.cell 8 _ rfl
      have y9 := HPSn.out.tb.cell 9 _ rfl
      have hsn := HPSn.out.size
      simp only [tokC]
      go_upto_region 19 with fail
      refine wp_world (fun W => PS w W (⟨5, [], []⟩ :: st) (open0 :: rs) sv1 t4 (cells6 k9 m9 e9 s9 A9 n9 c9 A8 n8 c8)) (HPSn.out.tok t4) ?_
      clear HPSn hsn q0 q1 q2 q3 q4 q5 q6 q7 q8 q9 y0 y1 y2 y3 y4 y5 y6 y7 y8 y9
      rintro W4 HPS4
      replace HPS4 := Keep.mk HPS4
      have hk1 : ta + 1 + ts.size ≤ tt := HT.out.wt rfl (show (91 : Nat) ≠ 255 by decide)
      have hk4 := HT4.out.2
      have hk5 := HT4.out.1.at_
      have hk6 := Keep.mk HT4.out.1
      obtain ⟨sg2, k2, m2, x2, ts2, ta2, tt2, te2⟩ := t4
      obtain ⟨g4, HG4⟩ := HPS4.out.topAt (by have := HLN2.out; simp only [List.length_cons] at this ⊢; omega)
      replace HG4 := Keep.mk HG4
      have hg4 := HG4.out.hi
      have HWT2 := Keep.mk (show weighS (⟨5, [], []⟩ :: st) + 0 ≤ ta2 by
        have h1 : weighS st + 0 ≤ ta := HWT.out
        have hk4 : tt ≤ ta2 := hk4
        show 1 + 0 + 0 + weighS st + 0 ≤ ta2
        omega)
      have HFU2 := Keep.mk (show wantP s.data.toList.length .val ta2 ≤ f by
        have h1 := HFU.out
        have hk4 : tt ≤ ta2 := hk4
        have hk5 : ta2 ≤ s.data.toList.length := hk5
        simp only [wantP, phL] at h1 ⊢
        omega)
      clear hk1 hk4 hk5
      by_cases he2 : te2 = 0
      case neg =>
        have b1 : (te2 == 0) = false := by simpa using he2
        have HE2 := Keep.mk he2
        clear he2
        have hsz := HPS4.out.size
        have y0 : W4.cell? ⟨w.heap.size + 2, 0, none⟩ = some (.int .u8 sg2) := HPS4.out.tb.cell 0 _ rfl
        have y1 : W4.cell? ⟨w.heap.size + 2, 1, none⟩ = some (.int .i64 k2) := HPS4.out.tb.cell 1 _ rfl
        have y2 : W4.cell? ⟨w.heap.size + 2, 2, none⟩ = some (.int .i64 m2) := HPS4.out.tb.cell 2 _ rfl
        have y3 : W4.cell? ⟨w.heap.size + 2, 3, none⟩ = some (.int .i64 x2) := HPS4.out.tb.cell 3 _ rfl
        have y4 : W4.cell? ⟨w.heap.size + 2, 4, none⟩ = some (.string ts2) := HPS4.out.tb.cell 4 _ rfl
        have y5 : W4.cell? ⟨w.heap.size + 2, 5, none⟩ = some (.slice none 0 0) := HPS4.out.tb.cell 5 _ rfl
        have y6 : W4.cell? ⟨w.heap.size + 2, 6, none⟩ = some (.slice none 0 0) := HPS4.out.tb.cell 6 _ rfl
        have y7 : W4.cell? ⟨w.heap.size + 2, 7, none⟩ = some (.int .i64 ta2) := HPS4.out.tb.cell 7 _ rfl
        have y8 : W4.cell? ⟨w.heap.size + 2, 8, none⟩ = some (.int .i64 tt2) := HPS4.out.tb.cell 8 _ rfl
        have y9 : W4.cell? ⟨w.heap.size + 2, 9, none⟩ = some (.int .i64 te2) := HPS4.out.tb.cell 9 _ rfl
        have q0 := HPS4.out.tb.froz 0
        have q1 := HPS4.out.tb.froz 1
        have q2 := HPS4.out.tb.froz 2
        have q3 := HPS4.out.tb.froz 3
        have q4 := HPS4.out.tb.froz 4
        have q5 := HPS4.out.tb.froz 5
        have q6 := HPS4.out.tb.froz 6
        have q7 := HPS4.out.tb.froz 7
        have q8 := HPS4.out.tb.froz 8
        have q9 := HPS4.out.tb.froz 9
        have HTP := Keep.mk (HG4.out.top W4 rfl rfl)
        go_wp2_with fail
        refine HTP.out.mono ?_
        rintro rn W5 ⟨rfl, hbt⟩
        have HPS5 := Keep.mk (HPS4.out.below hbt)
        have HU5 := Keep.mk (show W5.heap[w.heap.size + 1]? = W4.heap[w.heap.size + 1]? ∧ W5.heap[g4]? = W4.heap[g4]? from ⟨hbt.block _ (by have := HPS4.out.size; omega), hbt.block _ hg4⟩)
        have g0 : W5.cell? ⟨g4, rs.length * 3, none⟩ = some (.int .i64 5) := HG4.out.cell 0 _ rfl W5 HU5.out.2
        have hgl5 : g4 < W5.heap.size := Nat.lt_of_lt_of_le hg4 hbt.size
        clear HTP hbt
        clear y0 y1 y2 y3 y4 y5 y6 y7 y8 y9 q0 q1 q2 q3 q4 q5 q6 q7 q8 q9 hsz
        have hsz := HPS5.out.size
        have y0 : W5.cell? ⟨w.heap.size + 2, 0, none⟩ = some (.int .u8 sg2) := HPS5.out.tb.cell 0 _ rfl
        have y1 : W5.cell? ⟨w.heap.size + 2, 1, none⟩ = some (.int .i64 k2) := HPS5.out.tb.cell 1 _ rfl
        have y2 : W5.cell? ⟨w.heap.size + 2, 2, none⟩ = some (.int .i64 m2) := HPS5.out.tb.cell 2 _ rfl
        have y3 : W5.cell? ⟨w.heap.size + 2, 3, none⟩ = some (.int .i64 x2) := HPS5.out.tb.cell 3 _ rfl
        have y4 : W5.cell? ⟨w.heap.size + 2, 4, none⟩ = some (.string ts2) := HPS5.out.tb.cell 4 _ rfl
        have y5 : W5.cell? ⟨w.heap.size + 2, 5, none⟩ = some (.slice none 0 0) := HPS5.out.tb.cell 5 _ rfl
        have y6 : W5.cell? ⟨w.heap.size + 2, 6, none⟩ = some (.slice none 0 0) := HPS5.out.tb.cell 6 _ rfl
        have y7 : W5.cell? ⟨w.heap.size + 2, 7, none⟩ = some (.int .i64 ta2) := HPS5.out.tb.cell 7 _ rfl
        have y8 : W5.cell? ⟨w.heap.size + 2, 8, none⟩ = some (.int .i64 tt2) := HPS5.out.tb.cell 8 _ rfl
        have y9 : W5.cell? ⟨w.heap.size + 2, 9, none⟩ = some (.int .i64 te2) := HPS5.out.tb.cell 9 _ rfl
        have q0 := HPS5.out.tb.froz 0
        have q1 := HPS5.out.tb.froz 1
        have q2 := HPS5.out.tb.froz 2
        have q3 := HPS5.out.tb.froz 3
        have q4 := HPS5.out.tb.froz 4
        have q5 := HPS5.out.tb.froz 5
        have q6 := HPS5.out.tb.froz 6
        have q7 := HPS5.out.tb.froz 7
        have q8 := HPS5.out.tb.froz 8
        have q9 := HPS5.out.tb.froz 9
        go_wp2
        go_step3
        try simp only [Exit.then]
        refine outBy_goto (by simp [four]) ⟨f, Nat.lt_succ_self f, FrameP.mk .., _, v, _, _, sv1, _, HBG.out, HPS5.out, ⟨_, _, _, _, _, _, _, _, _, _, rfl⟩, (((val_open _ _ _ _ _ _ _ HN4.out rfl (by simp) H48.out).trans (if_neg (fun h => HE2.out h.1))).symm.trans HRUN.out), HFU2.out, ⟨tt, HT.out.to_, HN4.out.symm⟩, HLN2.out, HWT2.out, (fun h => by cases h), (fun h => by rcases h with h | h <;> cases h), (fun h => by cases h)⟩
      case pos =>
      subst he2
      by_cases hsh : sg2 = 93
      case pos =>
        subst hsh
        have hsz := HPS4.out.size
        have y0 : W4.cell? ⟨w.heap.size + 2, 0, none⟩ = some (.int .u8 93) := HPS4.out.tb.cell 0 _ rfl
        have y1 : W4.cell? ⟨w.heap.size + 2, 1, none⟩ = some (.int .i64 k2) := HPS4.out.tb.cell 1 _ rfl
        have y2 : W4.cell? ⟨w.heap.size + 2, 2, none⟩ = some (.int .i64 m2) := HPS4.out.tb.cell 2 _ rfl
        have y3 : W4.cell? ⟨w.heap.size + 2, 3, none⟩ = some (.int .i64 x2) := HPS4.out.tb.cell 3 _ rfl
        have y4 : W4.cell? ⟨w.heap.size + 2, 4, none⟩ = some (.string ts2) := HPS4.out.tb.cell 4 _ rfl
        have y5 : W4.cell? ⟨w.heap.size + 2, 5, none⟩ = some (.slice none 0 0) := HPS4.out.tb.cell 5 _ rfl
        have y6 : W4.cell? ⟨w.heap.size + 2, 6, none⟩ = some (.slice none 0 0) := HPS4.out.tb.cell 6 _ rfl
        have y7 : W4.cell? ⟨w.heap.size + 2, 7, none⟩ = some (.int .i64 ta2) := HPS4.out.tb.cell 7 _ rfl
        have y8 : W4.cell? ⟨w.heap.size + 2, 8, none⟩ = some (.int .i64 tt2) := HPS4.out.tb.cell 8 _ rfl
        have y9 : W4.cell? ⟨w.heap.size + 2, 9, none⟩ = some (.int .i64 0) := HPS4.out.tb.cell 9 _ rfl
        have q0 := HPS4.out.tb.froz 0
        have q1 := HPS4.out.tb.froz 1
        have q2 := HPS4.out.tb.froz 2
        have q3 := HPS4.out.tb.froz 3
        have q4 := HPS4.out.tb.froz 4
        have q5 := HPS4.out.tb.froz 5
        have q6 := HPS4.out.tb.froz 6
        have q7 := HPS4.out.tb.froz 7
        have q8 := HPS4.out.tb.froz 8
        have q9 := HPS4.out.tb.froz 9
        have HTP := Keep.mk (HG4.out.top W4 rfl rfl)
        go_wp2_with fail
        refine HTP.out.mono ?_
        rintro rn W5 ⟨rfl, hbt⟩
        have HPS5 := Keep.mk (HPS4.out.below hbt)
        have HU5 := Keep.mk (show W5.heap[w.heap.size + 1]? = W4.heap[w.heap.size + 1]? ∧ W5.heap[g4]? = W4.heap[g4]? from ⟨hbt.block _ (by have := HPS4.out.size; omega), hbt.block _ hg4⟩)
        have g0 : W5.cell? ⟨g4, rs.length * 3, none⟩ = some (.int .i64 5) := HG4.out.cell 0 _ rfl W5 HU5.out.2
        have hgl5 : g4 < W5.heap.size := Nat.lt_of_lt_of_le hg4 hbt.size
        clear HTP hbt
        clear y0 y1 y2 y3 y4 y5 y6 y7 y8 y9 q0 q1 q2 q3 q4 q5 q6 q7 q8 q9 hsz
        have hsz := HPS5.out.size
        have y0 : W5.cell? ⟨w.heap.size + 2, 0, none⟩ = some (.int .u8 93) := HPS5.out.tb.cell 0 _ rfl
        have y1 : W5.cell? ⟨w.heap.size + 2, 1, none⟩ = some (.int .i64 k2) := HPS5.out.tb.cell 1 _ rfl
        have y2 : W5.cell? ⟨w.heap.size + 2, 2, none⟩ = some (.int .i64 m2) := HPS5.out.tb.cell 2 _ rfl
        have y3 : W5.cell? ⟨w.heap.size + 2, 3, none⟩ = some (.int .i64 x2) := HPS5.out.tb.cell 3 _ rfl
        have y4 : W5.cell? ⟨w.heap.size + 2, 4, none⟩ = some (.string ts2) := HPS5.out.tb.cell 4 _ rfl
        have y5 : W5.cell? ⟨w.heap.size + 2, 5, none⟩ = some (.slice none 0 0) := HPS5.out.tb.cell 5 _ rfl
        have y6 : W5.cell? ⟨w.heap.size + 2, 6, none⟩ = some (.slice none 0 0) := HPS5.out.tb.cell 6 _ rfl
        have y7 : W5.cell? ⟨w.heap.size + 2, 7, none⟩ = some (.int .i64 ta2) := HPS5.out.tb.cell 7 _ rfl
        have y8 : W5.cell? ⟨w.heap.size + 2, 8, none⟩ = some (.int .i64 tt2) := HPS5.out.tb.cell 8 _ rfl
        have y9 : W5.cell? ⟨w.heap.size + 2, 9, none⟩ = some (.int .i64 0) := HPS5.out.tb.cell 9 _ rfl
        have q0 := HPS5.out.tb.froz 0
        have q1 := HPS5.out.tb.froz 1
        have q2 := HPS5.out.tb.froz 2
        have q3 := HPS5.out.tb.froz 3
        have q4 := HPS5.out.tb.froz 4
        have q5 := HPS5.out.tb.froz 5
        have q6 := HPS5.out.tb.froz 6
        have q7 := HPS5.out.tb.froz 7
        have q8 := HPS5.out.tb.froz 8
        have q9 := HPS5.out.tb.froz 9
        go_wp2
        go_step3
        try simp only [Exit.then]
        refine outBy_goto (by simp [four]) ⟨f, Nat.lt_succ_self f, FrameP.mk .., _, v, _, _, sv1, _, HBG.out, HPS5.out, ⟨_, _, _, _, _, _, _, _, _, _, rfl⟩, (((val_open _ _ _ _ _ _ _ HN4.out rfl (by simp) H48.out).trans (if_pos (by simp [isShut]))).symm.trans HRUN.out), ?_, ⟨tt, HT.out.to_, HN4.out.symm⟩, HLN2.out, HWT2.out, (fun h => by cases h), (fun _ => by simp), (fun _ => ⟨rfl, show (93 : Nat) ≠ 255 by decide⟩)⟩
        · have h1 := HFU2.out
          simp only [wantP, phL] at h1 ⊢
          omega
      case neg =>
        have b1 : ((sg2 : Int) == 93) = false := by simp; omega
        have HE2 := Keep.mk hsh
        clear hsh
        have hsz := HPS4.out.size
        have y0 : W4.cell? ⟨w.heap.size + 2, 0, none⟩ = some (.int .u8 sg2) := HPS4.out.tb.cell 0 _ rfl
        have y1 : W4.cell? ⟨w.heap.size + 2, 1, none⟩ = some (.int .i64 k2) := HPS4.out.tb.cell 1 _ rfl
        have y2 : W4.cell? ⟨w.heap.size + 2, 2, none⟩ = some (.int .i64 m2) := HPS4.out.tb.cell 2 _ rfl
        have y3 : W4.cell? ⟨w.heap.size + 2, 3, none⟩ = some (.int .i64 x2) := HPS4.out.tb.cell 3 _ rfl
        have y4 : W4.cell? ⟨w.heap.size + 2, 4, none⟩ = some (.string ts2) := HPS4.out.tb.cell 4 _ rfl
        have y5 : W4.cell? ⟨w.heap.size + 2, 5, none⟩ = some (.slice none 0 0) := HPS4.out.tb.cell 5 _ rfl
        have y6 : W4.cell? ⟨w.heap.size + 2, 6, none⟩ = some (.slice none 0 0) := HPS4.out.tb.cell 6 _ rfl
        have y7 : W4.cell? ⟨w.heap.size + 2, 7, none⟩ = some (.int .i64 ta2) := HPS4.out.tb.cell 7 _ rfl
        have y8 : W4.cell? ⟨w.heap.size + 2, 8, none⟩ = some (.int .i64 tt2) := HPS4.out.tb.cell 8 _ rfl
        have y9 : W4.cell? ⟨w.heap.size + 2, 9, none⟩ = some (.int .i64 0) := HPS4.out.tb.cell 9 _ rfl
        have q0 := HPS4.out.tb.froz 0
        have q1 := HPS4.out.tb.froz 1
        have q2 := HPS4.out.tb.froz 2
        have q3 := HPS4.out.tb.froz 3
        have q4 := HPS4.out.tb.froz 4
        have q5 := HPS4.out.tb.froz 5
        have q6 := HPS4.out.tb.froz 6
        have q7 := HPS4.out.tb.froz 7
        have q8 := HPS4.out.tb.froz 8
        have q9 := HPS4.out.tb.froz 9
        have HTP := Keep.mk (HG4.out.top W4 rfl rfl)
        go_wp2_with fail
        refine HTP.out.mono ?_
        rintro rn W5 ⟨rfl, hbt⟩
        have HPS5 := Keep.mk (HPS4.out.below hbt)
        have HU5 := Keep.mk (show W5.heap[w.heap.size + 1]? = W4.heap[w.heap.size + 1]? ∧ W5.heap[g4]? = W4.heap[g4]? from ⟨hbt.block _ (by have := HPS4.out.size; omega), hbt.block _ hg4⟩)
        have g0 : W5.cell? ⟨g4, rs.length * 3, none⟩ = some (.int .i64 5) := HG4.out.cell 0 _ rfl W5 HU5.out.2
        have hgl5 : g4 < W5.heap.size := Nat.lt_of_lt_of_le hg4 hbt.size
        clear HTP hbt
        clear y0 y1 y2 y3 y4 y5 y6 y7 y8 y9 q0 q1 q2 q3 q4 q5 q6 q7 q8 q9 hsz
        have hsz := HPS5.out.size
        have y0 : W5.cell? ⟨w.heap.size + 2, 0, none⟩ = some (.int .u8 sg2) := HPS5.out.tb.cell 0 _ rfl
        have y1 : W5.cell? ⟨w.heap.size + 2, 1, none⟩ = some (.int .i64 k2) := HPS5.out.tb.cell 1 _ rfl
        have y2 : W5.cell? ⟨w.heap.size + 2, 2, none⟩ = some (.int .i64 m2) := HPS5.out.tb.cell 2 _ rfl
        have y3 : W5.cell? ⟨w.heap.size + 2, 3, none⟩ = some (.int .i64 x2) := HPS5.out.tb.cell 3 _ rfl
        have y4 : W5.cell? ⟨w.heap.size + 2, 4, none⟩ = some (.string ts2) := HPS5.out.tb.cell 4 _ rfl
        have y5 : W5.cell? ⟨w.heap.size + 2, 5, none⟩ = some (.slice none 0 0) := HPS5.out.tb.cell 5 _ rfl
        have y6 : W5.cell? ⟨w.heap.size + 2, 6, none⟩ = some (.slice none 0 0) := HPS5.out.tb.cell 6 _ rfl
        have y7 : W5.cell? ⟨w.heap.size + 2, 7, none⟩ = some (.int .i64 ta2) := HPS5.out.tb.cell 7 _ rfl
        have y8 : W5.cell? ⟨w.heap.size + 2, 8, none⟩ = some (.int .i64 tt2) := HPS5.out.tb.cell 8 _ rfl
        have y9 : W5.cell? ⟨w.heap.size + 2, 9, none⟩ = some (.int .i64 0) := HPS5.out.tb.cell 9 _ rfl
        have q0 := HPS5.out.tb.froz 0
        have q1 := HPS5.out.tb.froz 1
        have q2 := HPS5.out.tb.froz 2
        have q3 := HPS5.out.tb.froz 3
        have q4 := HPS5.out.tb.froz 4
        have q5 := HPS5.out.tb.froz 5
        have q6 := HPS5.out.tb.froz 6
        have q7 := HPS5.out.tb.froz 7
        have q8 := HPS5.out.tb.froz 8
        have q9 := HPS5.out.tb.froz 9
        have HTP := Keep.mk (HG4.out.top W5 HU5.out.1 HU5.out.2)
        go_wp2_with fail
        refine HTP.out.mono ?_
        rintro rn W6 ⟨rfl, hbt⟩
        have HPS6 := Keep.mk (HPS5.out.below hbt)
        have HU6 := Keep.mk (show W6.heap[w.heap.size + 1]? = W4.heap[w.heap.size + 1]? ∧ W6.heap[g4]? = W4.heap[g4]? from ⟨(hbt.block _ (by have := HPS5.out.size; omega)).trans HU5.out.1, (hbt.block _ hgl5).trans HU5.out.2⟩)
        have g0 : W6.cell? ⟨g4, rs.length * 3, none⟩ = some (.int .i64 5) := HG4.out.cell 0 _ rfl W6 HU6.out.2
        have hgl6 : g4 < W6.heap.size := Nat.lt_of_lt_of_le hgl5 hbt.size
        clear HTP hbt
        clear y0 y1 y2 y3 y4 y5 y6 y7 y8 y9 q0 q1 q2 q3 q4 q5 q6 q7 q8 q9 hsz
        have hsz := HPS6.out.size
        have y0 : W6.cell? ⟨w.heap.size + 2, 0, none⟩ = some (.int .u8 sg2) := HPS6.out.tb.cell 0 _ rfl
        have y1 : W6.cell? ⟨w.heap.size + 2, 1, none⟩ = some (.int .i64 k2) := HPS6.out.tb.cell 1 _ rfl
        have y2 : W6.cell? ⟨w.heap.size + 2, 2, none⟩ = some (.int .i64 m2) := HPS6.out.tb.cell 2 _ rfl
        have y3 : W6.cell? ⟨w.heap.size + 2, 3, none⟩ = some (.int .i64 x2) := HPS6.out.tb.cell 3 _ rfl
        have y4 : W6.cell? ⟨w.heap.size + 2, 4, none⟩ = some (.string ts2) := HPS6.out.tb.cell 4 _ rfl
        have y5 : W6.cell? ⟨w.heap.size + 2, 5, none⟩ = some (.slice none 0 0) := HPS6.out.tb.cell 5 _ rfl
        have y6 : W6.cell? ⟨w.heap.size + 2, 6, none⟩ = some (.slice none 0 0) := HPS6.out.tb.cell 6 _ rfl
        have y7 : W6.cell? ⟨w.heap.size + 2, 7, none⟩ = some (.int .i64 ta2) := HPS6.out.tb.cell 7 _ rfl
        have y8 : W6.cell? ⟨w.heap.size + 2, 8, none⟩ = some (.int .i64 tt2) := HPS6.out.tb.cell 8 _ rfl
        have y9 : W6.cell? ⟨w.heap.size + 2, 9, none⟩ = some (.int .i64 0) := HPS6.out.tb.cell 9 _ rfl
        have q0 := HPS6.out.tb.froz 0
        have q1 := HPS6.out.tb.froz 1
        have q2 := HPS6.out.tb.froz 2
        have q3 := HPS6.out.tb.froz 3
        have q4 := HPS6.out.tb.froz 4
        have q5 := HPS6.out.tb.froz 5
        have q6 := HPS6.out.tb.froz 6
        have q7 := HPS6.out.tb.froz 7
        have q8 := HPS6.out.tb.froz 8
        have q9 := HPS6.out.tb.froz 9
        have HTP := Keep.mk (HG4.out.top W6 HU6.out.1 HU6.out.2)
        go_wp2_with fail
        refine HTP.out.mono ?_
        rintro rn W7 ⟨rfl, hbt⟩
        have HPS7 := Keep.mk (HPS6.out.below hbt)
        have HU7 := Keep.mk (show W7.heap[w.heap.size + 1]? = W4.heap[w.heap.size + 1]? ∧ W7.heap[g4]? = W4.heap[g4]? from ⟨(hbt.block _ (by have := HPS6.out.size; omega)).trans HU6.out.1, (hbt.block _ hgl6).trans HU6.out.2⟩)
        have g0 : W7.cell? ⟨g4, rs.length * 3, none⟩ = some (.int .i64 5) := HG4.out.cell 0 _ rfl W7 HU7.out.2
        have hgl7 : g4 < W7.heap.size := Nat.lt_of_lt_of_le hgl6 hbt.size
        clear HTP hbt
        clear y0 y1 y2 y3 y4 y5 y6 y7 y8 y9 q0 q1 q2 q3 q4 q5 q6 q7 q8 q9 hsz
        have hsz := HPS7.out.size
        have y0 : W7.cell? ⟨w.heap.size + 2, 0, none⟩ = some (.int .u8 sg2) := HPS7.out.tb.cell 0 _ rfl
        have y1 : W7.cell? ⟨w.heap.size + 2, 1, none⟩ = some (.int .i64 k2) := HPS7.out.tb.cell 1 _ rfl
        have y2 : W7.cell? ⟨w.heap.size + 2, 2, none⟩ = some (.int .i64 m2) := HPS7.out.tb.cell 2 _ rfl
        have y3 : W7.cell? ⟨w.heap.size + 2, 3, none⟩ = some (.int .i64 x2) := HPS7.out.tb.cell 3 _ rfl
        have y4 : W7.cell? ⟨w.heap.size + 2, 4, none⟩ = some (.string ts2) := HPS7.out.tb.cell 4 _ rfl
        have y5 : W7.cell? ⟨w.heap.size + 2, 5, none⟩ = some (.slice none 0 0) := HPS7.out.tb.cell 5 _ rfl
        have y6 : W7.cell? ⟨w.heap.size + 2, 6, none⟩ = some (.slice none 0 0) := HPS7.out.tb.cell 6 _ rfl
        have y7 : W7.cell? ⟨w.heap.size + 2, 7, none⟩ = some (.int .i64 ta2) := HPS7.out.tb.cell 7 _ rfl
        have y8 : W7.cell? ⟨w.heap.size + 2, 8, none⟩ = some (.int .i64 tt2) := HPS7.out.tb.cell 8 _ rfl
        have y9 : W7.cell? ⟨w.heap.size + 2, 9, none⟩ = some (.int .i64 0) := HPS7.out.tb.cell 9 _ rfl
        have q0 := HPS7.out.tb.froz 0
        have q1 := HPS7.out.tb.froz 1
        have q2 := HPS7.out.tb.froz 2
        have q3 := HPS7.out.tb.froz 3
        have q4 := HPS7.out.tb.froz 4
        have q5 := HPS7.out.tb.froz 5
        have q6 := HPS7.out.tb.froz 6
        have q7 := HPS7.out.tb.froz 7
        have q8 := HPS7.out.tb.froz 8
        have q9 := HPS7.out.tb.froz 9
        go_wp2
        go_step3
        try simp only [Exit.then]
        refine outBy_goto (by simp [four]) ⟨f, Nat.lt_succ_self f, FrameP.mk .., _, v, _, _, sv1, _, HBG.out, HPS7.out, ⟨_, _, _, _, _, _, _, _, _, _, rfl⟩, (((val_open _ _ _ _ _ _ _ HN4.out rfl (by simp) H48.out).trans (if_neg (fun h => HE2.out (by simpa [isShut] using h.2)))).symm.trans HRUN.out), HFU2.out, ⟨tt, HT.out.to_, HN4.out.symm⟩, HLN2.out, HWT2.out, (fun h => by cases h), (fun h => by rcases h with h | h <;> cases h), (fun h => by cases h)⟩
    · 
      by_cases h48 : st.length = 48
      case pos =>
        have b4 : ((rs.length : Int) == 48) = true := by have := hrl.out; simp; omega
        have HE := Keep.mk (HRUN.out.symm.trans (val_deep _ _ _ _ _ _ rfl (by simp) h48))
        clear h48
        have r0 := HPS.out.v.box.cell 0 _ rfl
        have r1 := HPS.out.v.box.cell 1 _ rfl
        have r2 := HPS.out.v.box.cell 2 _ rfl
        have r3 := HPS.out.v.box.cell 3 _ rfl
        have r4 := HPS.out.v.box.cell 4 _ rfl
        have r5 := HPS.out.v.box.cell 5 _ rfl
        have z0 := HPS.out.v.box.froz 0
        have z1 := HPS.out.v.box.froz 1
        have z2 := HPS.out.v.box.froz 2
        have z3 := HPS.out.v.box.froz 3
        have z4 := HPS.out.v.box.froz 4
        have z5 := HPS.out.v.box.froz 5
        have hsz := HPS.out.size
        have y0 : W.cell? ⟨w.heap.size + 2, 0, none⟩ = some (.int .u8 123) := HPS.out.tb.cell 0 _ rfl
        have y1 : W.cell? ⟨w.heap.size + 2, 1, none⟩ = some (.int .i64 k) := HPS.out.tb.cell 1 _ rfl
        have y2 : W.cell? ⟨w.heap.size + 2, 2, none⟩ = some (.int .i64 m) := HPS.out.tb.cell 2 _ rfl
        have y3 : W.cell? ⟨w.heap.size + 2, 3, none⟩ = some (.int .i64 x) := HPS.out.tb.cell 3 _ rfl
        have y4 : W.cell? ⟨w.heap.size + 2, 4, none⟩ = some (.string ts) := HPS.out.tb.cell 4 _ rfl
        have y5 : W.cell? ⟨w.heap.size + 2, 5, none⟩ = some (.slice none 0 0) := HPS.out.tb.cell 5 _ rfl
        have y6 : W.cell? ⟨w.heap.size + 2, 6, none⟩ = some (.slice none 0 0) := HPS.out.tb.cell 6 _ rfl
        have y7 : W.cell? ⟨w.heap.size + 2, 7, none⟩ = some (.int .i64 ta) := HPS.out.tb.cell 7 _ rfl
        have y8 : W.cell? ⟨w.heap.size + 2, 8, none⟩ = some (.int .i64 tt) := HPS.out.tb.cell 8 _ rfl
        have y9 : W.cell? ⟨w.heap.size + 2, 9, none⟩ = some (.int .i64 0) := HPS.out.tb.cell 9 _ rfl
        have q0 := HPS.out.tb.froz 0
        have q1 := HPS.out.tb.froz 1
        have q2 := HPS.out.tb.froz 2
        have q3 := HPS.out.tb.froz 3
        have q4 := HPS.out.tb.froz 4
        have q5 := HPS.out.tb.froz 5
        have q6 := HPS.out.tb.froz 6
        have q7 := HPS.out.tb.froz 7
        have q8 := HPS.out.tb.froz 8
        have q9 := HPS.out.tb.froz 9
        go_wp2_with fail
        clear r0 r1 r2 r3 r4 r5 z0 z1 z2 z3 z4 z5 y0 y1 y2 y3 y4 y5 y6 y7 y8 y9 q0 q1 q2 q3 q4 q5 q6 q7 q8 q9 hsz 
        refine wp_region_every (ErrI w ⟨123, k, m, x, ts, ta, tt, 0⟩ (cells6 k9 m9 e9 s9 A9 n9 c9 A8 n8 c8) 3) (fun
          | 0 => fun v _ => v = .agg (List.toArray zero6)
          | 1 => fun v _ => v = .pointer (some ⟨w.heap.size + 2, 7, none⟩)
          | 2 => fun v _ => v = .int .i64 ta
          | 3 => fun v _ => True
          | 4 => fun v _ => v = .int .i64 ta
          | 5 => fun v _ => v = .int .i64 31
          | _ => fun _ _ => True) (fun _ _ _ => True) (by kernel_rfl) (by kernel_rfl) (ErrI.new HPS.out) ?_ ?_ ?_
        · intro i j v w1 w2 _ _
          match j with
          | 0 | 1 | 2 | 3 | 4 | 5 => exact fun h => h
          | _ + 6 => exact fun h => h
        · simp only [stepHold]
          refine ⟨?_, ?_, ?_, ?_, ?_, ?_, trivial⟩
          · intro L a wa hL hI hs hd
            exact op_val _ (w' := wa) (by unfold execOp; go_simp; rfl) ⟨_, rfl, rfl, hI.step (by decide), trivial⟩
          · intro L a wa hL hI hs hd
            have e1 : a.eval (.tmp 6) = .pointer (some ⟨w.heap.size + 2, 0, none⟩) := hs 6 (by kernel_rfl)
            exact op_val _ (w' := wa) (by unfold execOp; simp only [e1]; go_simp) ⟨_, rfl, rfl, hI.step (by decide), trivial⟩
          · intro L a wa hL hI hs hd
            have e1 : a.eval (.tmp 45) = .pointer (some ⟨w.heap.size + 2, 7, none⟩) := hd.1
            have c0 : wa.cell? ⟨w.heap.size + 2, 7, none⟩ = some (.int .i64 ta) := hI.t.cell 7 _ rfl
            have hl := hI.t.lt
            exact op_val _ (w' := wa) (by unfold execOp; simp only [e1]; go_simp) ⟨_, rfl, rfl, hI.step (by decide), trivial⟩
          · intro L a wa hL hI hs hd
            have e1 : a.eval (.tmp 2) = .pointer (some ⟨w.heap.size, 0, none⟩) := hs 2 (by kernel_rfl)
            have e2 : a.eval (.tmp 44) = .agg (List.toArray zero6) := hd.1
            have hb := (hI.v0 hL).box
            have z0 := hb.froz 0
            have z1 := hb.froz 1
            have z2 := hb.froz 2
            have z3 := hb.froz 3
            have z4 := hb.froz 4
            have z5 := hb.froz 5
            have c0 := hb.cell 0 _ rfl
            have c1 := hb.cell 1 _ rfl
            have c2 := hb.cell 2 _ rfl
            have c3 := hb.cell 3 _ rfl
            have c4 := hb.cell 4 _ rfl
            have c5 := hb.cell 5 _ rfl
            have hl := hb.lt
            exact op_skip (w' := six wa w.heap.size (.int .i64 0) (.int .i64 0) (.int .i64 0) (.string ⟨#[]⟩) (.slice none 0 0) (.slice none 0 0)) (by unfold execOp; simp only [e1, e2, zero6, cells6]; go_simp; rfl) ⟨undef, rfl, trivial, hI.put hL, trivial⟩
          · intro L a wa hL hI hs hd
            have e1 : a.eval (.tmp 46) = .int .i64 ta := hd.1
            exact op_val _ (w' := wa) (by unfold execOp; simp only [e1]; go_simp) ⟨_, rfl, rfl, hI.step (by decide), trivial⟩
          · intro L a wa hL hI hs hd
            exact op_val _ (w' := wa) (by unfold execOp; go_simp) ⟨_, rfl, rfl, hI.step (by decide), trivial⟩
        · intro vs L W2 hL hI hall
          simp only [allHold, gives] at hall
          obtain ⟨h0, h1, h2, h3, h4, h5, _⟩ := hall
          simp only [putL]
          generalize vs 0 = v0 at *
          generalize vs 1 = v1 at *
          generalize vs 2 = v2 at *
          generalize vs 3 = v3 at *
          generalize vs 4 = v4 at *
          generalize vs 5 = v5 at *
          subst v0 v1 v2 v4 v5
          have HVB := Keep.mk (hI.v1 (hL 3 (by decide)))
          have HBE := Keep.mk hI.b
          have r0 := HVB.out.box.cell 0 _ rfl
          have r1 := HVB.out.box.cell 1 _ rfl
          have r2 := HVB.out.box.cell 2 _ rfl
          have r3 := HVB.out.box.cell 3 _ rfl
          have r4 := HVB.out.box.cell 4 _ rfl
          have r5 := HVB.out.box.cell 5 _ rfl
          clear hI hL HPS
          go_wp2
          rw [outP_ret]
          refine bodyPost_ret (v := .tuple #[.agg (List.toArray zero6), .int .i64 ta, .int .i64 31]) ?_ rfl ⟨zero6, by rw [HE.out], by rw [HE.out]; exact zero_in _ _, HBE.out⟩
          simp [zero6, cells6, results, Tryz.results6, go_sem, r0, r1, r2, r3, r4, r5]
      case neg =>
      have b4 : ((rs.length : Int) == 48) = false := by have := hrl.out; simp; omega
      have H48 := Keep.mk h48
      clear h48
      have HPSH := Keep.mk (fun (W' : World) (h1 : W'.heap[w.heap.size + 1]? = some (.cells #[sv] 42 (0, 0))) (h2 : OpensAt W' (w.heap.size + 3) sv rs.reverse) (h3 : w.heap.size + 3 ≤ W'.heap.size) => stack_push (w.heap.size + 1) sv rs.reverse (w.heap.size + 3) W' h1 h2 (by have := hrl.out; have := HLN.out; simp; omega) (by omega) h3)
      have HLN2 := Keep.mk (show (⟨6, [], []⟩ :: st : List OJ).length ≤ 48 by have := HLN.out; have := H48.out; simp only [List.length_cons]; omega)
      have r0 := HPS.out.v.box.cell 0 _ rfl
      have r1 := HPS.out.v.box.cell 1 _ rfl
      have r2 := HPS.out.v.box.cell 2 _ rfl
      have r3 := HPS.out.v.box.cell 3 _ rfl
      have r4 := HPS.out.v.box.cell 4 _ rfl
      have r5 := HPS.out.v.box.cell 5 _ rfl
      have z0 := HPS.out.v.box.froz 0
      have z1 := HPS.out.v.box.froz 1
      have z2 := HPS.out.v.box.froz 2
      have z3 := HPS.out.v.box.froz 3
      have z4 := HPS.out.v.box.froz 4
      have z5 := HPS.out.v.box.froz 5
      have hsz := HPS.out.size
      have y0 : W.cell? ⟨w.heap.size + 2, 0, none⟩ = some (.int .u8 123) := HPS.out.tb.cell 0 _ rfl
      have y1 : W.cell? ⟨w.heap.size + 2, 1, none⟩ = some (.int .i64 k) := HPS.out.tb.cell 1 _ rfl
      have y2 : W.cell? ⟨w.heap.size + 2, 2, none⟩ = some (.int .i64 m) := HPS.out.tb.cell 2 _ rfl
      have y3 : W.cell? ⟨w.heap.size + 2, 3, none⟩ = some (.int .i64 x) := HPS.out.tb.cell 3 _ rfl
      have y4 : W.cell? ⟨w.heap.size + 2, 4, none⟩ = some (.string ts) := HPS.out.tb.cell 4 _ rfl
      have y5 : W.cell? ⟨w.heap.size + 2, 5, none⟩ = some (.slice none 0 0) := HPS.out.tb.cell 5 _ rfl
      have y6 : W.cell? ⟨w.heap.size + 2, 6, none⟩ = some (.slice none 0 0) := HPS.out.tb.cell 6 _ rfl
      have y7 : W.cell? ⟨w.heap.size + 2, 7, none⟩ = some (.int .i64 ta) := HPS.out.tb.cell 7 _ rfl
      have y8 : W.cell? ⟨w.heap.size + 2, 8, none⟩ = some (.int .i64 tt) := HPS.out.tb.cell 8 _ rfl
      have y9 : W.cell? ⟨w.heap.size + 2, 9, none⟩ = some (.int .i64 0) := HPS.out.tb.cell 9 _ rfl
      have q0 := HPS.out.tb.froz 0
      have q1 := HPS.out.tb.froz 1
      have q2 := HPS.out.tb.froz 2
      have q3 := HPS.out.tb.froz 3
      have q4 := HPS.out.tb.froz 4
      have q5 := HPS.out.tb.froz 5
      have q6 := HPS.out.tb.froz 6
      have q7 := HPS.out.tb.froz 7
      have q8 := HPS.out.tb.froz 8
      have q9 := HPS.out.tb.froz 9
      go_wp2_with fail
      refine (HPSH.out _ HPS.out.s HPS.out.o HPS.out.size).mono ?_
      rintro rn W1 ⟨rfl, sv1, hs1, hO1, hT1, hn1⟩
      have HPS1 := Keep.mk (HPS.out.push hT1 hs1 hO1 hn1)
      clear hs1 hO1 hT1 hn1 HPSH s0 b4
      clear y0 y1 y2 y3 y4 y5 y6 y7 y8 y9 q0 q1 q2 q3 q4 q5 q6 q7 q8 q9 hsz r0 r1 r2 r3 r4 r5 z0 z1 z2 z3 z4 z5
      have hsz := HPS1.out.size
      have y0 : W1.cell? ⟨w.heap.size + 2, 0, none⟩ = some (.int .u8 123) := HPS1.out.tb.cell 0 _ rfl
      have y1 : W1.cell? ⟨w.heap.size + 2, 1, none⟩ = some (.int .i64 k) := HPS1.out.tb.cell 1 _ rfl
      have y2 : W1.cell? ⟨w.heap.size + 2, 2, none⟩ = some (.int .i64 m) := HPS1.out.tb.cell 2 _ rfl
      have y3 : W1.cell? ⟨w.heap.size + 2, 3, none⟩ = some (.int .i64 x) := HPS1.out.tb.cell 3 _ rfl
      have y4 : W1.cell? ⟨w.heap.size + 2, 4, none⟩ = some (.string ts) := HPS1.out.tb.cell 4 _ rfl
      have y5 : W1.cell? ⟨w.heap.size + 2, 5, none⟩ = some (.slice none 0 0) := HPS1.out.tb.cell 5 _ rfl
      have y6 : W1.cell? ⟨w.heap.size + 2, 6, none⟩ = some (.slice none 0 0) := HPS1.out.tb.cell 6 _ rfl
      have y7 : W1.cell? ⟨w.heap.size + 2, 7, none⟩ = some (.int .i64 ta) := HPS1.out.tb.cell 7 _ rfl
      have y8 : W1.cell? ⟨w.heap.size + 2, 8, none⟩ = some (.int .i64 tt) := HPS1.out.tb.cell 8 _ rfl
      have y9 : W1.cell? ⟨w.heap.size + 2, 9, none⟩ = some (.int .i64 0) := HPS1.out.tb.cell 9 _ rfl
      have q0 := HPS1.out.tb.froz 0
      have q1 := HPS1.out.tb.froz 1
      have q2 := HPS1.out.tb.froz 2
      have q3 := HPS1.out.tb.froz 3
      have q4 := HPS1.out.tb.froz 4
      have q5 := HPS1.out.tb.froz 5
      have q6 := HPS1.out.tb.froz 6
      have q7 := HPS1.out.tb.froz 7
      have q8 := HPS1.out.tb.froz 8
      have q9 := HPS1.out.tb.froz 9
      obtain ⟨g4, HG4⟩ := HPS1.out.topAt (by have := HLN2.out; simp only [List.length_cons] at this ⊢; omega)
      replace HG4 := Keep.mk HG4
      have hg4 := HG4.out.hi
      have HTP := Keep.mk (HG4.out.top W1 rfl rfl)
      go_wp2_with fail
      refine HTP.out.mono ?_
      rintro rn W2 ⟨rfl, hbt⟩
      have HPS2 := Keep.mk (HPS1.out.below hbt)
      have HPSk := Keep.mk (HPS2.out.kind HG4.out.own)
      have g0 : W2.cell? ⟨g4, rs.length * 3, none⟩ = some (.int .i64 5) := HG4.out.cell 0 _ rfl W2 (hbt.block _ hg4)
      have gz : W2.frozen? ⟨g4, rs.length * 3, none⟩ = false := HG4.out.froz _ W2 (hbt.block _ hg4)
      have hgB : g4 < W2.heap.size := Nat.lt_of_lt_of_le hg4 hbt.size
      clear HTP hbt HPS1
      go_upto_region 18 with fail
      refine wp_world (fun W => PS w W (⟨6, [], []⟩ :: st) ((6, .slice none 0 0, .slice none 0 0) :: rs) sv1 ⟨123, k, m, x, ts, ta, tt, 0⟩ (cells6 k9 m9 e9 s9 A9 n9 c9 A8 n8 c8)) HPSk.out ?_
      clear HPSk HPS2 g0 gz hgB HG4 hg4
      clear y0 y1 y2 y3 y4 y5 y6 y7 y8 y9 q0 q1 q2 q3 q4 q5 q6 q7 q8 q9 hsz
      rintro W3 HPS3
      replace HPS3 := Keep.mk HPS3
      have HNX := Keep.mk (fun (W' : World) (hg : GlobV W') => read_next s hs tt (by have h2 : tt ≤ s.data.toList.length := HT.out.to_; have := HL.out; omega) W' hg)
      have yt : W3.cell? ⟨w.heap.size + 2, 8, none⟩ = some (.int .i64 tt) := HPS3.out.tb.cell 8 _ rfl
      have hszA := HPS3.out.size
      go_wp2_with fail
      refine (HNX.out _ HPS3.out.gg).mono ?_
      rintro rn Wn ⟨rfl, hbn⟩
      have HPSn := Keep.mk (HPS3.out.below hbn)
      obtain ⟨t4, htn⟩ : ∃ t, nextT s.data.toList tt = t := ⟨_, rfl⟩
      rw [htn]
      have HN4 := Keep.mk htn
      have HT4 := Keep.mk (by have h := next_tokF s.data.toList tt HT.out.to_; rw [htn] at h; exact h)
      clear htn hbn hszA HPS3 HNX yt
      have q0 := HPSn.out.tb.froz 0
      have q1 := HPSn.out.tb.froz 1
      have q2 := HPSn.out.tb.froz 2
      have q3 := HPSn.out.tb.froz 3
      have q4 := HPSn.out.tb.froz 4
      have q5 := HPSn.out.tb.froz 5
      have q6 := HPSn.out.tb.froz 6
      have q7 := HPSn.out.tb.froz 7
      have q8 := HPSn.out.tb.froz 8
      have q9 := HPSn.out.tb.froz 9
      have y0 := HPSn.out.tb.cell 0 _ rfl
      have y1 := HPSn.out.tb.cell 1 _ rfl
      have y2 := HPSn.out.tb.cell 2 _ rfl
      have y3 := HPSn.out.tb.cell 3 _ rfl
      have y4 := HPSn.out.tb.cell 4 _ rfl
      have y5 := HPSn.out.tb.cell 5 _ rfl
      have y6 := HPSn.out.tb.cell 6 _ rfl
      have y7 := HPSn.out.tb.cell 7 _ rfl
      have y8 := HPSn.out.tb.cell 8 _ rfl
      have y9 := HPSn.out.tb.cell 9 _ rfl
      have hsn := HPSn.out.size
      simp only [tokC]
      go_upto_region 19 with fail
      refine wp_world (fun W => PS w W (⟨6, [], []⟩ :: st) ((6, .slice none 0 0, .slice none 0 0) :: rs) sv1 t4 (cells6 k9 m9 e9 s9 A9 n9 c9 A8 n8 c8)) (HPSn.out.tok t4) ?_
      clear HPSn hsn q0 q1 q2 q3 q4 q5 q6 q7 q8 q9 y0 y1 y2 y3 y4 y5 y6 y7 y8 y9
      rintro W4 HPS4
      replace HPS4 := Keep.mk HPS4
      have hk1 : ta + 1 + ts.size ≤ tt := HT.out.wt rfl (show (123 : Nat) ≠ 255 by decide)
      have hk4 := HT4.out.2
      have hk5 := HT4.out.1.at_
      have hk6 := Keep.mk HT4.out.1
      obtain ⟨sg2, k2, m2, x2, ts2, ta2, tt2, te2⟩ := t4
      obtain ⟨g4, HG4⟩ := HPS4.out.topAt (by have := HLN2.out; simp only [List.length_cons] at this ⊢; omega)
      replace HG4 := Keep.mk HG4
      have hg4 := HG4.out.hi
      have HWT2 := Keep.mk (show weighS (⟨6, [], []⟩ :: st) + 0 ≤ ta2 by
        have h1 : weighS st + 0 ≤ ta := HWT.out
        have hk4 : tt ≤ ta2 := hk4
        show 1 + 0 + 0 + weighS st + 0 ≤ ta2
        omega)
      have HFU2 := Keep.mk (show wantP s.data.toList.length .val ta2 ≤ f by
        have h1 := HFU.out
        have hk4 : tt ≤ ta2 := hk4
        have hk5 : ta2 ≤ s.data.toList.length := hk5
        simp only [wantP, phL] at h1 ⊢
        omega)
      clear hk1 hk4 hk5
      by_cases he2 : te2 = 0
      case neg =>
        have b1 : (te2 == 0) = false := by simpa using he2
        have HE2 := Keep.mk he2
        clear he2
        have hsz := HPS4.out.size
        have y0 : W4.cell? ⟨w.heap.size + 2, 0, none⟩ = some (.int .u8 sg2) := HPS4.out.tb.cell 0 _ rfl
        have y1 : W4.cell? ⟨w.heap.size + 2, 1, none⟩ = some (.int .i64 k2) := HPS4.out.tb.cell 1 _ rfl
        have y2 : W4.cell? ⟨w.heap.size + 2, 2, none⟩ = some (.int .i64 m2) := HPS4.out.tb.cell 2 _ rfl
        have y3 : W4.cell? ⟨w.heap.size + 2, 3, none⟩ = some (.int .i64 x2) := HPS4.out.tb.cell 3 _ rfl
        have y4 : W4.cell? ⟨w.heap.size + 2, 4, none⟩ = some (.string ts2) := HPS4.out.tb.cell 4 _ rfl
        have y5 : W4.cell? ⟨w.heap.size + 2, 5, none⟩ = some (.slice none 0 0) := HPS4.out.tb.cell 5 _ rfl
        have y6 : W4.cell? ⟨w.heap.size + 2, 6, none⟩ = some (.slice none 0 0) := HPS4.out.tb.cell 6 _ rfl
        have y7 : W4.cell? ⟨w.heap.size + 2, 7, none⟩ = some (.int .i64 ta2) := HPS4.out.tb.cell 7 _ rfl
        have y8 : W4.cell? ⟨w.heap.size + 2, 8, none⟩ = some (.int .i64 tt2) := HPS4.out.tb.cell 8 _ rfl
        have y9 : W4.cell? ⟨w.heap.size + 2, 9, none⟩ = some (.int .i64 te2) := HPS4.out.tb.cell 9 _ rfl
        have q0 := HPS4.out.tb.froz 0
        have q1 := HPS4.out.tb.froz 1
        have q2 := HPS4.out.tb.froz 2
        have q3 := HPS4.out.tb.froz 3
        have q4 := HPS4.out.tb.froz 4
        have q5 := HPS4.out.tb.froz 5
        have q6 := HPS4.out.tb.froz 6
        have q7 := HPS4.out.tb.froz 7
        have q8 := HPS4.out.tb.froz 8
        have q9 := HPS4.out.tb.froz 9
        have HTP := Keep.mk (HG4.out.top W4 rfl rfl)
        go_wp2_with fail
        refine HTP.out.mono ?_
        rintro rn W5 ⟨rfl, hbt⟩
        have HPS5 := Keep.mk (HPS4.out.below hbt)
        have HU5 := Keep.mk (show W5.heap[w.heap.size + 1]? = W4.heap[w.heap.size + 1]? ∧ W5.heap[g4]? = W4.heap[g4]? from ⟨hbt.block _ (by have := HPS4.out.size; omega), hbt.block _ hg4⟩)
        have g0 : W5.cell? ⟨g4, rs.length * 3, none⟩ = some (.int .i64 6) := HG4.out.cell 0 _ rfl W5 HU5.out.2
        have hgl5 : g4 < W5.heap.size := Nat.lt_of_lt_of_le hg4 hbt.size
        clear HTP hbt
        clear y0 y1 y2 y3 y4 y5 y6 y7 y8 y9 q0 q1 q2 q3 q4 q5 q6 q7 q8 q9 hsz
        have hsz := HPS5.out.size
        have y0 : W5.cell? ⟨w.heap.size + 2, 0, none⟩ = some (.int .u8 sg2) := HPS5.out.tb.cell 0 _ rfl
        have y1 : W5.cell? ⟨w.heap.size + 2, 1, none⟩ = some (.int .i64 k2) := HPS5.out.tb.cell 1 _ rfl
        have y2 : W5.cell? ⟨w.heap.size + 2, 2, none⟩ = some (.int .i64 m2) := HPS5.out.tb.cell 2 _ rfl
        have y3 : W5.cell? ⟨w.heap.size + 2, 3, none⟩ = some (.int .i64 x2) := HPS5.out.tb.cell 3 _ rfl
        have y4 : W5.cell? ⟨w.heap.size + 2, 4, none⟩ = some (.string ts2) := HPS5.out.tb.cell 4 _ rfl
        have y5 : W5.cell? ⟨w.heap.size + 2, 5, none⟩ = some (.slice none 0 0) := HPS5.out.tb.cell 5 _ rfl
        have y6 : W5.cell? ⟨w.heap.size + 2, 6, none⟩ = some (.slice none 0 0) := HPS5.out.tb.cell 6 _ rfl
        have y7 : W5.cell? ⟨w.heap.size + 2, 7, none⟩ = some (.int .i64 ta2) := HPS5.out.tb.cell 7 _ rfl
        have y8 : W5.cell? ⟨w.heap.size + 2, 8, none⟩ = some (.int .i64 tt2) := HPS5.out.tb.cell 8 _ rfl
        have y9 : W5.cell? ⟨w.heap.size + 2, 9, none⟩ = some (.int .i64 te2) := HPS5.out.tb.cell 9 _ rfl
        have q0 := HPS5.out.tb.froz 0
        have q1 := HPS5.out.tb.froz 1
        have q2 := HPS5.out.tb.froz 2
        have q3 := HPS5.out.tb.froz 3
        have q4 := HPS5.out.tb.froz 4
        have q5 := HPS5.out.tb.froz 5
        have q6 := HPS5.out.tb.froz 6
        have q7 := HPS5.out.tb.froz 7
        have q8 := HPS5.out.tb.froz 8
        have q9 := HPS5.out.tb.froz 9
        go_wp2
        go_step3
        simp only [Exit.then]
        refine ‹∀ (a : Act) (W : World), Code.wp Tryz.prog _ _ a W → _› _ _ ?_
        refine tail_use (l := 3) rfl (outBy_mono (fun l a w ⟨m, hm, hJ⟩ => ⟨m, Nat.lt_succ_of_lt hm, hJ⟩) (parse_pass3 s hs w RV f _ _ ⟨FrameP.mk .., _, v, _, _, sv1, _, HBG.out, HPS5.out, ⟨_, _, _, _, _, _, _, _, _, _, rfl⟩, (((val_open _ _ _ _ _ _ _ HN4.out rfl (by simp) H48.out).trans (if_neg (fun h => HE2.out h.1))).symm.trans HRUN.out), HFU2.out, ⟨tt, HT.out.to_, HN4.out.symm⟩, HLN2.out, HWT2.out, (fun h => by cases h), (fun _ => by simp), (fun h => by cases h)⟩))
      case pos =>
      subst he2
      by_cases hsh : sg2 = 125
      case pos =>
        subst hsh
        have hsz := HPS4.out.size
        have y0 : W4.cell? ⟨w.heap.size + 2, 0, none⟩ = some (.int .u8 125) := HPS4.out.tb.cell 0 _ rfl
        have y1 : W4.cell? ⟨w.heap.size + 2, 1, none⟩ = some (.int .i64 k2) := HPS4.out.tb.cell 1 _ rfl
        have y2 : W4.cell? ⟨w.heap.size + 2, 2, none⟩ = some (.int .i64 m2) := HPS4.out.tb.cell 2 _ rfl
        have y3 : W4.cell? ⟨w.heap.size + 2, 3, none⟩ = some (.int .i64 x2) := HPS4.out.tb.cell 3 _ rfl
        have y4 : W4.cell? ⟨w.heap.size + 2, 4, none⟩ = some (.string ts2) := HPS4.out.tb.cell 4 _ rfl
        have y5 : W4.cell? ⟨w.heap.size + 2, 5, none⟩ = some (.slice none 0 0) := HPS4.out.tb.cell 5 _ rfl
        have y6 : W4.cell? ⟨w.heap.size + 2, 6, none⟩ = some (.slice none 0 0) := HPS4.out.tb.cell 6 _ rfl
        have y7 : W4.cell? ⟨w.heap.size + 2, 7, none⟩ = some (.int .i64 ta2) := HPS4.out.tb.cell 7 _ rfl
        have y8 : W4.cell? ⟨w.heap.size + 2, 8, none⟩ = some (.int .i64 tt2) := HPS4.out.tb.cell 8 _ rfl
        have y9 : W4.cell? ⟨w.heap.size + 2, 9, none⟩ = some (.int .i64 0) := HPS4.out.tb.cell 9 _ rfl
        have q0 := HPS4.out.tb.froz 0
        have q1 := HPS4.out.tb.froz 1
        have q2 := HPS4.out.tb.froz 2
        have q3 := HPS4.out.tb.froz 3
        have q4 := HPS4.out.tb.froz 4
        have q5 := HPS4.out.tb.froz 5
        have q6 := HPS4.out.tb.froz 6
        have q7 := HPS4.out.tb.froz 7
        have q8 := HPS4.out.tb.froz 8
        have q9 := HPS4.out.tb.froz 9
        have HTP := Keep.mk (HG4.out.top W4 rfl rfl)
        go_wp2_with fail
        refine HTP.out.mono ?_
        rintro rn W5 ⟨rfl, hbt⟩
        have HPS5 := Keep.mk (HPS4.out.below hbt)
        have HU5 := Keep.mk (show W5.heap[w.heap.size + 1]? = W4.heap[w.heap.size + 1]? ∧ W5.heap[g4]? = W4.heap[g4]? from ⟨hbt.block _ (by have := HPS4.out.size; omega), hbt.block _ hg4⟩)
        have g0 : W5.cell? ⟨g4, rs.length * 3, none⟩ = some (.int .i64 6) := HG4.out.cell 0 _ rfl W5 HU5.out.2
        have hgl5 : g4 < W5.heap.size := Nat.lt_of_lt_of_le hg4 hbt.size
        clear HTP hbt
        clear y0 y1 y2 y3 y4 y5 y6 y7 y8 y9 q0 q1 q2 q3 q4 q5 q6 q7 q8 q9 hsz
        have hsz := HPS5.out.size
        have y0 : W5.cell? ⟨w.heap.size + 2, 0, none⟩ = some (.int .u8 125) := HPS5.out.tb.cell 0 _ rfl
        have y1 : W5.cell? ⟨w.heap.size + 2, 1, none⟩ = some (.int .i64 k2) := HPS5.out.tb.cell 1 _ rfl
        have y2 : W5.cell? ⟨w.heap.size + 2, 2, none⟩ = some (.int .i64 m2) := HPS5.out.tb.cell 2 _ rfl
        have y3 : W5.cell? ⟨w.heap.size + 2, 3, none⟩ = some (.int .i64 x2) := HPS5.out.tb.cell 3 _ rfl
        have y4 : W5.cell? ⟨w.heap.size + 2, 4, none⟩ = some (.string ts2) := HPS5.out.tb.cell 4 _ rfl
        have y5 : W5.cell? ⟨w.heap.size + 2, 5, none⟩ = some (.slice none 0 0) := HPS5.out.tb.cell 5 _ rfl
        have y6 : W5.cell? ⟨w.heap.size + 2, 6, none⟩ = some (.slice none 0 0) := HPS5.out.tb.cell 6 _ rfl
        have y7 : W5.cell? ⟨w.heap.size + 2, 7, none⟩ = some (.int .i64 ta2) := HPS5.out.tb.cell 7 _ rfl
        have y8 : W5.cell? ⟨w.heap.size + 2, 8, none⟩ = some (.int .i64 tt2) := HPS5.out.tb.cell 8 _ rfl
        have y9 : W5.cell? ⟨w.heap.size + 2, 9, none⟩ = some (.int .i64 0) := HPS5.out.tb.cell 9 _ rfl
        have q0 := HPS5.out.tb.froz 0
        have q1 := HPS5.out.tb.froz 1
        have q2 := HPS5.out.tb.froz 2
        have q3 := HPS5.out.tb.froz 3
        have q4 := HPS5.out.tb.froz 4
        have q5 := HPS5.out.tb.froz 5
        have q6 := HPS5.out.tb.froz 6
        have q7 := HPS5.out.tb.froz 7
        have q8 := HPS5.out.tb.froz 8
        have q9 := HPS5.out.tb.froz 9
        have HTP := Keep.mk (HG4.out.top W5 HU5.out.1 HU5.out.2)
        go_wp2_with fail
        refine HTP.out.mono ?_
        rintro rn W6 ⟨rfl, hbt⟩
        have HPS6 := Keep.mk (HPS5.out.below hbt)
        have HU6 := Keep.mk (show W6.heap[w.heap.size + 1]? = W4.heap[w.heap.size + 1]? ∧ W6.heap[g4]? = W4.heap[g4]? from ⟨(hbt.block _ (by have := HPS5.out.size; omega)).trans HU5.out.1, (hbt.block _ hgl5).trans HU5.out.2⟩)
        have g0 : W6.cell? ⟨g4, rs.length * 3, none⟩ = some (.int .i64 6) := HG4.out.cell 0 _ rfl W6 HU6.out.2
        have hgl6 : g4 < W6.heap.size := Nat.lt_of_lt_of_le hgl5 hbt.size
        clear HTP hbt
        clear y0 y1 y2 y3 y4 y5 y6 y7 y8 y9 q0 q1 q2 q3 q4 q5 q6 q7 q8 q9 hsz
        have hsz := HPS6.out.size
        have y0 : W6.cell? ⟨w.heap.size + 2, 0, none⟩ = some (.int .u8 125) := HPS6.out.tb.cell 0 _ rfl
        have y1 : W6.cell? ⟨w.heap.size + 2, 1, none⟩ = some (.int .i64 k2) := HPS6.out.tb.cell 1 _ rfl
        have y2 : W6.cell? ⟨w.heap.size + 2, 2, none⟩ = some (.int .i64 m2) := HPS6.out.tb.cell 2 _ rfl
        have y3 : W6.cell? ⟨w.heap.size + 2, 3, none⟩ = some (.int .i64 x2) := HPS6.out.tb.cell 3 _ rfl
        have y4 : W6.cell? ⟨w.heap.size + 2, 4, none⟩ = some (.string ts2) := HPS6.out.tb.cell 4 _ rfl
        have y5 : W6.cell? ⟨w.heap.size + 2, 5, none⟩ = some (.slice none 0 0) := HPS6.out.tb.cell 5 _ rfl
        have y6 : W6.cell? ⟨w.heap.size + 2, 6, none⟩ = some (.slice none 0 0) := HPS6.out.tb.cell 6 _ rfl
        have y7 : W6.cell? ⟨w.heap.size + 2, 7, none⟩ = some (.int .i64 ta2) := HPS6.out.tb.cell 7 _ rfl
        have y8 : W6.cell? ⟨w.heap.size + 2, 8, none⟩ = some (.int .i64 tt2) := HPS6.out.tb.cell 8 _ rfl
        have y9 : W6.cell? ⟨w.heap.size + 2, 9, none⟩ = some (.int .i64 0) := HPS6.out.tb.cell 9 _ rfl
        have q0 := HPS6.out.tb.froz 0
        have q1 := HPS6.out.tb.froz 1
        have q2 := HPS6.out.tb.froz 2
        have q3 := HPS6.out.tb.froz 3
        have q4 := HPS6.out.tb.froz 4
        have q5 := HPS6.out.tb.froz 5
        have q6 := HPS6.out.tb.froz 6
        have q7 := HPS6.out.tb.froz 7
        have q8 := HPS6.out.tb.froz 8
        have q9 := HPS6.out.tb.froz 9
        go_wp2
        go_step3
        try simp only [Exit.then]
        refine outBy_goto (by simp [four]) ⟨f, Nat.lt_succ_self f, FrameP.mk .., _, v, _, _, sv1, _, HBG.out, HPS6.out, ⟨_, _, _, _, _, _, _, _, _, _, rfl⟩, (((val_open _ _ _ _ _ _ _ HN4.out rfl (by simp) H48.out).trans (if_pos (by simp [isShut]))).symm.trans HRUN.out), ?_, ⟨tt, HT.out.to_, HN4.out.symm⟩, HLN2.out, HWT2.out, (fun h => by cases h), (fun _ => by simp), (fun _ => ⟨rfl, show (125 : Nat) ≠ 255 by decide⟩)⟩
        · have h1 := HFU2.out
          simp only [wantP, phL] at h1 ⊢
          omega
      case neg =>
        have b1 : ((sg2 : Int) == 125) = false := by simp; omega
        have HE2 := Keep.mk hsh
        clear hsh
        have hsz := HPS4.out.size
        have y0 : W4.cell? ⟨w.heap.size + 2, 0, none⟩ = some (.int .u8 sg2) := HPS4.out.tb.cell 0 _ rfl
        have y1 : W4.cell? ⟨w.heap.size + 2, 1, none⟩ = some (.int .i64 k2) := HPS4.out.tb.cell 1 _ rfl
        have y2 : W4.cell? ⟨w.heap.size + 2, 2, none⟩ = some (.int .i64 m2) := HPS4.out.tb.cell 2 _ rfl
        have y3 : W4.cell? ⟨w.heap.size + 2, 3, none⟩ = some (.int .i64 x2) := HPS4.out.tb.cell 3 _ rfl
        have y4 : W4.cell? ⟨w.heap.size + 2, 4, none⟩ = some (.string ts2) := HPS4.out.tb.cell 4 _ rfl
        have y5 : W4.cell? ⟨w.heap.size + 2, 5, none⟩ = some (.slice none 0 0) := HPS4.out.tb.cell 5 _ rfl
        have y6 : W4.cell? ⟨w.heap.size + 2, 6, none⟩ = some (.slice none 0 0) := HPS4.out.tb.cell 6 _ rfl
        have y7 : W4.cell? ⟨w.heap.size + 2, 7, none⟩ = some (.int .i64 ta2) := HPS4.out.tb.cell 7 _ rfl
        have y8 : W4.cell? ⟨w.heap.size + 2, 8, none⟩ = some (.int .i64 tt2) := HPS4.out.tb.cell 8 _ rfl
        have y9 : W4.cell? ⟨w.heap.size + 2, 9, none⟩ = some (.int .i64 0) := HPS4.out.tb.cell 9 _ rfl
        have q0 := HPS4.out.tb.froz 0
        have q1 := HPS4.out.tb.froz 1
        have q2 := HPS4.out.tb.froz 2
        have q3 := HPS4.out.tb.froz 3
        have q4 := HPS4.out.tb.froz 4
        have q5 := HPS4.out.tb.froz 5
        have q6 := HPS4.out.tb.froz 6
        have q7 := HPS4.out.tb.froz 7
        have q8 := HPS4.out.tb.froz 8
        have q9 := HPS4.out.tb.froz 9
        have HTP := Keep.mk (HG4.out.top W4 rfl rfl)
        go_wp2_with fail
        refine HTP.out.mono ?_
        rintro rn W5 ⟨rfl, hbt⟩
        have HPS5 := Keep.mk (HPS4.out.below hbt)
        have HU5 := Keep.mk (show W5.heap[w.heap.size + 1]? = W4.heap[w.heap.size + 1]? ∧ W5.heap[g4]? = W4.heap[g4]? from ⟨hbt.block _ (by have := HPS4.out.size; omega), hbt.block _ hg4⟩)
        have g0 : W5.cell? ⟨g4, rs.length * 3, none⟩ = some (.int .i64 6) := HG4.out.cell 0 _ rfl W5 HU5.out.2
        have hgl5 : g4 < W5.heap.size := Nat.lt_of_lt_of_le hg4 hbt.size
        clear HTP hbt
        clear y0 y1 y2 y3 y4 y5 y6 y7 y8 y9 q0 q1 q2 q3 q4 q5 q6 q7 q8 q9 hsz
        have hsz := HPS5.out.size
        have y0 : W5.cell? ⟨w.heap.size + 2, 0, none⟩ = some (.int .u8 sg2) := HPS5.out.tb.cell 0 _ rfl
        have y1 : W5.cell? ⟨w.heap.size + 2, 1, none⟩ = some (.int .i64 k2) := HPS5.out.tb.cell 1 _ rfl
        have y2 : W5.cell? ⟨w.heap.size + 2, 2, none⟩ = some (.int .i64 m2) := HPS5.out.tb.cell 2 _ rfl
        have y3 : W5.cell? ⟨w.heap.size + 2, 3, none⟩ = some (.int .i64 x2) := HPS5.out.tb.cell 3 _ rfl
        have y4 : W5.cell? ⟨w.heap.size + 2, 4, none⟩ = some (.string ts2) := HPS5.out.tb.cell 4 _ rfl
        have y5 : W5.cell? ⟨w.heap.size + 2, 5, none⟩ = some (.slice none 0 0) := HPS5.out.tb.cell 5 _ rfl
        have y6 : W5.cell? ⟨w.heap.size + 2, 6, none⟩ = some (.slice none 0 0) := HPS5.out.tb.cell 6 _ rfl
        have y7 : W5.cell? ⟨w.heap.size + 2, 7, none⟩ = some (.int .i64 ta2) := HPS5.out.tb.cell 7 _ rfl
        have y8 : W5.cell? ⟨w.heap.size + 2, 8, none⟩ = some (.int .i64 tt2) := HPS5.out.tb.cell 8 _ rfl
        have y9 : W5.cell? ⟨w.heap.size + 2, 9, none⟩ = some (.int .i64 0) := HPS5.out.tb.cell 9 _ rfl
        have q0 := HPS5.out.tb.froz 0
        have q1 := HPS5.out.tb.froz 1
        have q2 := HPS5.out.tb.froz 2
        have q3 := HPS5.out.tb.froz 3
        have q4 := HPS5.out.tb.froz 4
        have q5 := HPS5.out.tb.froz 5
        have q6 := HPS5.out.tb.froz 6
        have q7 := HPS5.out.tb.froz 7
        have q8 := HPS5.out.tb.froz 8
        have q9 := HPS5.out.tb.froz 9
        have HTP := Keep.mk (HG4.out.top W5 HU5.out.1 HU5.out.2)
        go_wp2_with fail
        refine HTP.out.mono ?_
        rintro rn W6 ⟨rfl, hbt⟩
        have HPS6 := Keep.mk (HPS5.out.below hbt)
        have HU6 := Keep.mk (show W6.heap[w.heap.size + 1]? = W4.heap[w.heap.size + 1]? ∧ W6.heap[g4]? = W4.heap[g4]? from ⟨(hbt.block _ (by have := HPS5.out.size; omega)).trans HU5.out.1, (hbt.block _ hgl5).trans HU5.out.2⟩)
        have g0 : W6.cell? ⟨g4, rs.length * 3, none⟩ = some (.int .i64 6) := HG4.out.cell 0 _ rfl W6 HU6.out.2
        have hgl6 : g4 < W6.heap.size := Nat.lt_of_lt_of_le hgl5 hbt.size
        clear HTP hbt
        clear y0 y1 y2 y3 y4 y5 y6 y7 y8 y9 q0 q1 q2 q3 q4 q5 q6 q7 q8 q9 hsz
        have hsz := HPS6.out.size
        have y0 : W6.cell? ⟨w.heap.size + 2, 0, none⟩ = some (.int .u8 sg2) := HPS6.out.tb.cell 0 _ rfl
        have y1 : W6.cell? ⟨w.heap.size + 2, 1, none⟩ = some (.int .i64 k2) := HPS6.out.tb.cell 1 _ rfl
        have y2 : W6.cell? ⟨w.heap.size + 2, 2, none⟩ = some (.int .i64 m2) := HPS6.out.tb.cell 2 _ rfl
        have y3 : W6.cell? ⟨w.heap.size + 2, 3, none⟩ = some (.int .i64 x2) := HPS6.out.tb.cell 3 _ rfl
        have y4 : W6.cell? ⟨w.heap.size + 2, 4, none⟩ = some (.string ts2) := HPS6.out.tb.cell 4 _ rfl
        have y5 : W6.cell? ⟨w.heap.size + 2, 5, none⟩ = some (.slice none 0 0) := HPS6.out.tb.cell 5 _ rfl
        have y6 : W6.cell? ⟨w.heap.size + 2, 6, none⟩ = some (.slice none 0 0) := HPS6.out.tb.cell 6 _ rfl
        have y7 : W6.cell? ⟨w.heap.size + 2, 7, none⟩ = some (.int .i64 ta2) := HPS6.out.tb.cell 7 _ rfl
        have y8 : W6.cell? ⟨w.heap.size + 2, 8, none⟩ = some (.int .i64 tt2) := HPS6.out.tb.cell 8 _ rfl
        have y9 : W6.cell? ⟨w.heap.size + 2, 9, none⟩ = some (.int .i64 0) := HPS6.out.tb.cell 9 _ rfl
        have q0 := HPS6.out.tb.froz 0
        have q1 := HPS6.out.tb.froz 1
        have q2 := HPS6.out.tb.froz 2
        have q3 := HPS6.out.tb.froz 3
        have q4 := HPS6.out.tb.froz 4
        have q5 := HPS6.out.tb.froz 5
        have q6 := HPS6.out.tb.froz 6
        have q7 := HPS6.out.tb.froz 7
        have q8 := HPS6.out.tb.froz 8
        have q9 := HPS6.out.tb.froz 9
        have HTP := Keep.mk (HG4.out.top W6 HU6.out.1 HU6.out.2)
        go_wp2_with fail
        refine HTP.out.mono ?_
        rintro rn W7 ⟨rfl, hbt⟩
        have HPS7 := Keep.mk (HPS6.out.below hbt)
        have HU7 := Keep.mk (show W7.heap[w.heap.size + 1]? = W4.heap[w.heap.size + 1]? ∧ W7.heap[g4]? = W4.heap[g4]? from ⟨(hbt.block _ (by have := HPS6.out.size; omega)).trans HU6.out.1, (hbt.block _ hgl6).trans HU6.out.2⟩)
        have g0 : W7.cell? ⟨g4, rs.length * 3, none⟩ = some (.int .i64 6) := HG4.out.cell 0 _ rfl W7 HU7.out.2
        have hgl7 : g4 < W7.heap.size := Nat.lt_of_lt_of_le hgl6 hbt.size
        clear HTP hbt
        clear y0 y1 y2 y3 y4 y5 y6 y7 y8 y9 q0 q1 q2 q3 q4 q5 q6 q7 q8 q9 hsz
        have hsz := HPS7.out.size
        have y0 : W7.cell? ⟨w.heap.size + 2, 0, none⟩ = some (.int .u8 sg2) := HPS7.out.tb.cell 0 _ rfl
        have y1 : W7.cell? ⟨w.heap.size + 2, 1, none⟩ = some (.int .i64 k2) := HPS7.out.tb.cell 1 _ rfl
        have y2 : W7.cell? ⟨w.heap.size + 2, 2, none⟩ = some (.int .i64 m2) := HPS7.out.tb.cell 2 _ rfl
        have y3 : W7.cell? ⟨w.heap.size + 2, 3, none⟩ = some (.int .i64 x2) := HPS7.out.tb.cell 3 _ rfl
        have y4 : W7.cell? ⟨w.heap.size + 2, 4, none⟩ = some (.string ts2) := HPS7.out.tb.cell 4 _ rfl
        have y5 : W7.cell? ⟨w.heap.size + 2, 5, none⟩ = some (.slice none 0 0) := HPS7.out.tb.cell 5 _ rfl
        have y6 : W7.cell? ⟨w.heap.size + 2, 6, none⟩ = some (.slice none 0 0) := HPS7.out.tb.cell 6 _ rfl
        have y7 : W7.cell? ⟨w.heap.size + 2, 7, none⟩ = some (.int .i64 ta2) := HPS7.out.tb.cell 7 _ rfl
        have y8 : W7.cell? ⟨w.heap.size + 2, 8, none⟩ = some (.int .i64 tt2) := HPS7.out.tb.cell 8 _ rfl
        have y9 : W7.cell? ⟨w.heap.size + 2, 9, none⟩ = some (.int .i64 0) := HPS7.out.tb.cell 9 _ rfl
        have q0 := HPS7.out.tb.froz 0
        have q1 := HPS7.out.tb.froz 1
        have q2 := HPS7.out.tb.froz 2
        have q3 := HPS7.out.tb.froz 3
        have q4 := HPS7.out.tb.froz 4
        have q5 := HPS7.out.tb.froz 5
        have q6 := HPS7.out.tb.froz 6
        have q7 := HPS7.out.tb.froz 7
        have q8 := HPS7.out.tb.froz 8
        have q9 := HPS7.out.tb.froz 9
        go_wp2
        go_step3
        simp only [Exit.then]
        refine ‹∀ (a : Act) (W : World), Code.wp Tryz.prog _ _ a W → _› _ _ ?_
        refine tail_use (l := 3) rfl (outBy_mono (fun l a w ⟨m, hm, hJ⟩ => ⟨m, Nat.lt_succ_of_lt hm, hJ⟩) (parse_pass3 s hs w RV f _ _ ⟨FrameP.mk .., _, v, _, _, sv1, _, HBG.out, HPS7.out, ⟨_, _, _, _, _, _, _, _, _, _, rfl⟩, (((val_open _ _ _ _ _ _ _ HN4.out rfl (by simp) H48.out).trans (if_neg (fun h => HE2.out (by simpa [isShut] using h.2)))).symm.trans HRUN.out), HFU2.out, ⟨tt, HT.out.to_, HN4.out.symm⟩, HLN2.out, HWT2.out, (fun h => by cases h), (fun _ => by simp), (fun h => by cases h)⟩))
end Go.Proofs.YtbngjlkmpdccjaaGreatDoor
