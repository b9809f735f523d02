/- Lemmas and contracts for the laws ReadParses, ReadBytes, part 49 of 50: LawParses. Conditions: those that each lemma names. -/
import Derived.Test.YtbngjlkmpdccjaaGreatDoorPack44
import Derived.Test.YtbngjlkmpdccjaaGreatDoorPack25
import Derived.Test.YtbngjlkmpdccjaaGreatDoorPack48
import Derived.Outline
namespace Go.Proofs.YtbngjlkmpdccjaaGreatDoor
open Go Go.RowKit Go.Proofs Th
attribute [local go_sem] Above.cell
structure BlkP (w W : World) (p : Nat) (v : JV) (cs : List Value) : Prop where
  j : JAt W W.heap.size v cs
  v : VBlkT W p cs
  b : Below w.heap.size w W
theorem BlkP.below {w W W' : World} {p : Nat} {v : JV} {cs : List Value} (h : BlkP w W p v cs) (hb : Below W.heap.size W W') : BlkP w W' p v cs :=
  ⟨(h.j.keep hb (Nat.le_refl _)).more hb.size, (hb.block _ (lt_of_block h.v)).trans h.v, up h.b hb⟩
theorem blkP_new {w W0 W : World} {v : JV} {cs : List Value} (h0 : Below w.heap.size w W0) (hJ : JIn W (newIn W0 W) v cs) (hb : Below W0.heap.size W0 W) :
    BlkP w (W.alloc (.cells cs.toArray 28)) W.heap.size v cs := by
  obtain ⟨k9, m9, e9, s9, A9, n9, c9, A8, n8, c8, rfl⟩ := hJ.cells
  exact ⟨(hJ.keep (T := (· < (W.alloc (.cells (cells6 k9 m9 e9 s9 A9 n9 c9 A8 n8 c8).toArray 28)).heap.size)) (fun g hg => (al1 W _).block g hg.2) (fun g hg => Nat.lt_of_lt_of_le hg.2 (al1 W _).size)).at (fun _ h => h), VBlkT.new _ rfl, up (up h0 hb) (al1 W _)⟩
set_option maxRecDepth 100000 in
/-- a text that is too great: it is refused at once -/
theorem read_Parse_big (s : ByteArray) (hbig : 16384 < s.size) (hs : s.size ≤ 140737488351232) (w : World) : Calls Tryz.prog 6 #[.string s] w fun r w' =>
    ∃ cs, r = .returned (.tuple #[.agg (List.toArray cs), .int .i64 (readV madeJ s.data.toList).2.1, .int .i64 (readV madeJ s.data.toList).2.2]) ∧ JIn w' (newIn w w') (readV madeJ s.data.toList).1 cs ∧ Below w.heap.size w w' := by
  have hE : readV madeJ s.data.toList = (zeroJ, 0, 3) := by unfold readV; rw [if_pos (show 16384 < s.data.toList.length from by rw [show s.data.toList.length = s.size from Array.length_toList ..]; exact hbig)]
  rw [hE]
  clear hE
  go_enter Tryz.func6, Tryz.ntmps6
  go_wp2
  refine wp_world (fun W => VBlkT W w.heap.size zero6 ∧ W.heap.size = w.heap.size + 1 ∧ Below w.heap.size w W) ⟨VBlkT.new zero6 rfl, by simp, al1 _ _⟩ ?_
  rintro W0 ⟨HV, hsz, HB⟩
  replace HV := Keep.mk HV
  replace HB := Keep.mk HB
  refine wp_scope_many (fun _ => none) (fun _ _ _ _ => False) (fun _ _ h => by cases h) ?_ (fun _ _ _ _ _ h => by cases h)
  have hrb := HV.out.box
  have r0 := hrb.cell 0 _ rfl
  have r1 := hrb.cell 1 _ rfl
  have r2 := hrb.cell 2 _ rfl
  have r3 := hrb.cell 3 _ rfl
  have r4 := hrb.cell 4 _ rfl
  have r5 := hrb.cell 5 _ rfl
  have z0 := hrb.froz 0
  have z1 := hrb.froz 1
  have z2 := hrb.froz 2
  have z3 := hrb.froz 3
  have z4 := hrb.froz 4
  have z5 := hrb.froz 5
  have hrl := hrb.lt
  have HBE := Keep.mk (HB.out.trans (six_below W0 w.heap.size (.int .i64 0) (.int .i64 0) (.int .i64 0) (.string ⟨#[]⟩) (.slice none 0 0) (.slice none 0 0) (Nat.le_refl _)))
  clear hrb
  go_wp2
  rw [outBy_ret]
  refine bodyPost_ret (v := .tuple #[.agg (List.toArray zero6), .int .i64 0, .int .i64 3]) ?_ rfl ⟨zero6, rfl, zero_in _ _, HBE.out⟩
  simp [zero6, cells6, results, Tryz.results6, go_sem, r0, r1, r2, r3, r4, r5]
theorem read_Parse_all (s : ByteArray) (hs : s.size ≤ 140737488351232) (w : World) (hG : GlobV w) : Calls Tryz.prog 6 #[.string s] w fun r w' =>
    ∃ cs, r = .returned (.tuple #[.agg (List.toArray cs), .int .i64 (readV madeJ s.data.toList).2.1, .int .i64 (readV madeJ s.data.toList).2.2]) ∧ JIn w' (newIn w w') (readV madeJ s.data.toList).1 cs ∧ Below w.heap.size w w' := by
  by_cases h : 16384 < s.size
  · exact read_Parse_big s h hs w
  · exact read_Parse s (by omega) w hG
set_option maxRecDepth 100000 in
set_option maxHeartbeats 4000000 in
theorem law_parses (s : ByteArray) (hs : s.size ≤ 140737488351232) (w : World) (hG : GlobV w) :
    Calls Tryz.prog 3 #[.string s] w fun r w' => r = .returned (.bool true) ∧ Below w.heap.size w w' := by
  have HW := Keep.mk (fun (W : World) (hb : Below w.heap.size w W) => works6 W (hG.below hb))
  have HP := Keep.mk (read_Parse_all s hs w hG)
  have HQ := Keep.mk (fun (W : World) => ref6_Parse s (by omega) W)
  clear hG
  by_cases hbig : 3000 < s.size ∧ s.size ≤ 16384
  · obtain ⟨hbig1, hbig2⟩ := hbig
    go_enter Tryz.func3, Tryz.ntmps3
    go_wp2_with fail
    refine (HW.out w (Below.refl _ _)).mono ?_
    rintro r w1 ⟨rfl, hb⟩
    go_wp2
    go_ret
    exact ⟨rfl, hb⟩
  · have hcase : ¬ 3000 < s.size ∨ (3000 < s.size ∧ ¬ s.size ≤ 16384) := by omega
    clear hbig
    generalize readV madeJ s.data.toList = R1 at *
    obtain ⟨v1, a1, e1⟩ := R1
    go_enter Tryz.func3, Tryz.ntmps3
    rcases hcase with h1 | ⟨h1, h2⟩
    all_goals
      go_upto_region 3 with fail
      go_wp2_with fail
      refine HP.out.mono ?_
      rintro r w2 ⟨cs, rfl, hJ, hb2⟩
      have HJ1 := Keep.mk (blkP_new (Below.refl _ _) hJ hb2)
      obtain ⟨k9, m9, e9, s9, A9, n9, c9, A8, n8, c8, rfl⟩ := hJ.cells
      clear hJ hb2 HP
      simp only [cells6] at HJ1 ⊢
      go_upto_region 4 with fail
      refine wp_world (fun W => BlkP w W w2.heap.size v1 (cells6 k9 m9 e9 s9 A9 n9 c9 A8 n8 c8)) HJ1.out ?_
      generalize w2.heap.size = p
      clear HJ1
      rintro W3 HJ1
      replace HJ1 := Keep.mk HJ1
      go_wp2_with fail
      refine (HQ.out _).mono ?_
      rintro r w4 ⟨cs, rfl, hJ, hb4⟩
      have HJ3 := Keep.mk ((HJ1.out.below hb4).below (al1 w4 (.cells cs.toArray 28)))
      have HJ2 := Keep.mk (blkP_new HJ1.out.b hJ hb4)
      obtain ⟨k7, m7, e7, s7, A7, n7, c7, A6, n6, c6, rfl⟩ := hJ.cells
      clear hJ hb4 HQ HJ1
      simp only [cells6] at HJ2 HJ3 ⊢
      go_upto_region 5 with fail
      refine wp_world (fun W => BlkP w W p v1 (cells6 k9 m9 e9 s9 A9 n9 c9 A8 n8 c8) ∧ BlkP w W w4.heap.size v1 (cells6 k7 m7 e7 s7 A7 n7 c7 A6 n6 c6)) ⟨HJ3.out, HJ2.out⟩ ?_
      generalize w4.heap.size = q
      clear HJ2 HJ3
      rintro W5 ⟨HJ1, HJ2⟩
      have HSM := Keep.mk (ref3_Same _ v1 v1 (Nat.le_refl _) W5 _ _ HJ1.j HJ2.j)
      have x0 := HJ1.v.box.cell 0 _ rfl
      have x1 := HJ1.v.box.cell 1 _ rfl
      have x2 := HJ1.v.box.cell 2 _ rfl
      have x3 := HJ1.v.box.cell 3 _ rfl
      have x4 := HJ1.v.box.cell 4 _ rfl
      have x5 := HJ1.v.box.cell 5 _ rfl
      have hxl := HJ1.v.box.lt
      have y0 := HJ2.v.box.cell 0 _ rfl
      have y1 := HJ2.v.box.cell 1 _ rfl
      have y2 := HJ2.v.box.cell 2 _ rfl
      have y3 := HJ2.v.box.cell 3 _ rfl
      have y4 := HJ2.v.box.cell 4 _ rfl
      have y5 := HJ2.v.box.cell 5 _ rfl
      have hyl := HJ2.v.box.lt
      have HB5 := Keep.mk HJ1.b
      clear HJ1 HJ2
      go_wp2_with fail
      refine HSM.out.mono ?_
      rintro r w6 ⟨rfl, hb6⟩
      rw [sameJ_self]
      have HB6 := Keep.mk (up HB5.out hb6)
      clear HSM hb6 HB5
      go_wp2_with fail
      refine (HW.out _ HB6.out).mono ?_
      rintro r w7 ⟨rfl, hb7⟩
      have HB7 := Keep.mk (up HB6.out hb7)
      clear HB6 HW hb7
      go_wp2
      go_ret
      exact ⟨rfl, HB7.out⟩
end Go.Proofs.YtbngjlkmpdccjaaGreatDoor
