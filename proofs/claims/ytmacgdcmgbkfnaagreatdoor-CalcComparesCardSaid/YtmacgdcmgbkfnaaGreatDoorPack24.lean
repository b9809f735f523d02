/- Lemmas and contracts for the laws CalcCompares, part 24 of 33: CalcO. Conditions: those that each lemma names. -/
import Derived.Test.YtmacgdcmgbkfnaaGreatDoorPack23
namespace Go.Proofs.YtmacgdcmgbkfnaaGreatDoor
open Go Go.RowKit Go.Proofs Th
attribute [local go_sem] Above.cell
structure OpS (w W : World) (cs cs2 : List Value) : Prop where
  x : Box W w.heap.size cs
  y : Box W (w.heap.size + 1) cs2
  r : Box W (w.heap.size + 2) zero6
  b : Below w.heap.size w W
theorem OpS.below {w W W' : World} {cs cs2 : List Value} (h : OpS w W cs cs2) (hb : Below W.heap.size W W') : OpS w W' cs cs2 := ⟨h.x.below hb h.x.lt, h.y.below hb h.y.lt, h.r.below hb h.r.lt, up h.b hb⟩
theorem OpS.new (w : World) (k m e : Int) (s : ByteArray) (A : Option Addr) (n c : Nat) (A' : Option Addr) (n' c' : Nat) (k2 m2 e2 : Int) (s2 : ByteArray) (B : Option Addr) (n2 d : Nat) (B' : Option Addr) (n2' d' : Nat) (t t2 t3 : TypeId) :
    OpS w (((w.alloc (.cells #[.int .i64 k, .int .i64 m, .int .i64 e, .string s, .slice A n c, .slice A' n' c'] t)).alloc (.cells #[.int .i64 k2, .int .i64 m2, .int .i64 e2, .string s2, .slice B n2 d, .slice B' n2' d'] t2)).alloc (.cells #[.int .i64 0, .int .i64 0, .int .i64 0, .string ⟨#[]⟩, .slice none 0 0, .slice none 0 0] t3))
      (cells6 k m e s A n c A' n' c') (cells6 k2 m2 e2 s2 B n2 d B' n2' d') :=
  ⟨((Box.new (cells6 k m e s A n c A' n' c') t rfl).alloc _).alloc _, (Box.new (cells6 k2 m2 e2 s2 B n2 d B' n2' d') t2 (by simp)).alloc _, Box.new zero6 t3 (by simp), al3 _ _ _ _⟩
def OpPost (w : World) (r : Ending) (w' : World) (p : JV × Int) : Prop := ∃ cs', r = .returned (.tuple #[.agg (List.toArray cs'), .int .i64 p.2]) ∧ JIn w' (newIn w w') p.1 cs' ∧ Below w.heap.size w w'
theorem six_in {W : World} {g : Nat} {t : JV} {cs : List Value} {S : Nat → Prop} (a0 a1 a2 a3 a4 a5 : Value) (h : JIn W S t cs) (hg : ¬ S g) : JIn (six W g a0 a1 a2 a3 a4 a5) S t cs :=
  h.keep (fun p hp => six_other W g _ _ _ _ _ _ p (fun e => hg (e ▸ hp))) (fun _ h => h)
theorem calc_truth2 (b : Bool) (w : World) : Calls Tryz.prog 25 #[.bool b] w fun r w' => ∃ q : Int, r = .returned (.agg #[.int .i64 q, .int .i64 0, .int .i64 0, .string ⟨#[]⟩, .slice none 0 0, .slice none 0 0]) ∧ Keep (∀ W S, JIn W S (truthV b) (cells6 q 0 0 ⟨#[]⟩ none 0 0 none 0 0)) ∧ Below w.heap.size w w' :=
  (calc_truth b w).mono fun _ _ ⟨h, hb⟩ => ⟨_, h, ⟨fun W S => truth_in W S b⟩, hb⟩
theorem six_size (W : World) (g : Nat) (a0 a1 a2 a3 a4 a5 : Value) : (six W g a0 a1 a2 a3 a4 a5).heap.size = W.heap.size := by simp [six]
set_option maxRecDepth 100000 in
set_option maxHeartbeats 4000000 in
theorem oper_eq (a b : JV) (w : World) (cs cs2 : List Value) (hG : GlobW w) (hJ : JAt w w.heap.size a cs) (hJ2 : JAt w w.heap.size b cs2) (ha : rightJ a = 0) (hb : rightJ b = 0) :
    Calls Tryz.prog 8 #[.string ⟨#[61, 61]⟩, .agg cs.toArray, .agg cs2.toArray] w fun r w' => OpPost w r w' (truthV (decide (cmpJ a b = 0)), 0) := by
  obtain ⟨k, m, e, s, A, n, c, A', n', c', rfl⟩ := hJ.inn.cells
  obtain ⟨k2, m2, e2, s2, B, n2, d, B', n2', d', rfl⟩ := hJ2.inn.cells
  have HG := Keep.mk (fun W (hb : Below w.heap.size w W) => hG.below hb)
  have HJ := Keep.mk hJ
  have HJ2 := Keep.mk hJ2
  have HRA := Keep.mk ha
  have HRB := Keep.mk hb
  have HBL := Keep.mk (show badL [a, b] = 0 by show (if rightJ a ≠ 0 then rightJ a else if rightJ b ≠ 0 then rightJ b else 0) = 0; rw [ha, hb]; rfl)
  have HS := Keep.mk (fun W => calc_sign ⟨#[61, 61]⟩ W)
  rw [show Lib.containsS signsB ⟨#[61, 61]⟩ = true by decide] at HS
  have HT := Keep.mk (OpS.new w k m e s A n c A' n' c' k2 m2 e2 s2 B n2 d B' n2' d' 27 27 27)
  clear hG hJ hJ2 ha hb
  show Calls _ _ #[.string ⟨#[61, 61]⟩, .agg #[.int .i64 k, .int .i64 m, .int .i64 e, .string s, .slice A n c, .slice A' n' c'], .agg #[.int .i64 k2, .int .i64 m2, .int .i64 e2, .string s2, .slice B n2 d, .slice B' n2' d']] w _
  go_enter Tryz.func8, Tryz.ntmps8
  go_wp2_with fail
  refine calls_world (fun W => OpS w W (cells6 k m e s A n c A' n' c') (cells6 k2 m2 e2 s2 B n2 d B' n2' d')) HT.out ?_
  clear HT
  rintro W0 HT
  refine (HS.out W0).mono ?_
  rintro r w1 ⟨rfl, hb1⟩
  replace HT := Keep.mk (HT.below hb1)
  clear hb1 HS
  have x0 := HT.out.x.cell 0 _ rfl
  have x1 := HT.out.x.cell 1 _ rfl
  have x2 := HT.out.x.cell 2 _ rfl
  have x3 := HT.out.x.cell 3 _ rfl
  have x4 := HT.out.x.cell 4 _ rfl
  have x5 := HT.out.x.cell 5 _ rfl
  have xl := HT.out.x.lt
  have y0 := HT.out.y.cell 0 _ rfl
  have y1 := HT.out.y.cell 1 _ rfl
  have y2 := HT.out.y.cell 2 _ rfl
  have y3 := HT.out.y.cell 3 _ rfl
  have y4 := HT.out.y.cell 4 _ rfl
  have y5 := HT.out.y.cell 5 _ rfl
  have yl := HT.out.y.lt
  have HV := Keep.mk (two_vals w1 a b k m e s A n c A' n' c' k2 m2 e2 s2 B n2 d B' n2' d' (HJ.out.up HT.out.b) (HJ2.out.up HT.out.b) 27)
  go_wp2_with fail
  refine (calc_right [a, b] _ 2 _ (HG.out _ (up HT.out.b (al1 _ _))).weak HV.out).mono ?_
  rw [HBL.out]
  rintro r w2 ⟨rfl, hb2⟩
  replace HT := Keep.mk (HT.out.below (up (al1 _ _) hb2))
  clear hb2 HBL HV
  clear x0 x1 x2 x3 x4 x5 y0 y1 y2 y3 y4 y5 xl yl
  have x0 := HT.out.x.cell 0 _ rfl
  have x1 := HT.out.x.cell 1 _ rfl
  have x2 := HT.out.x.cell 2 _ rfl
  have x3 := HT.out.x.cell 3 _ rfl
  have x4 := HT.out.x.cell 4 _ rfl
  have x5 := HT.out.x.cell 5 _ rfl
  have xl := HT.out.x.lt
  have y0 := HT.out.y.cell 0 _ rfl
  have y1 := HT.out.y.cell 1 _ rfl
  have y2 := HT.out.y.cell 2 _ rfl
  have y3 := HT.out.y.cell 3 _ rfl
  have y4 := HT.out.y.cell 4 _ rfl
  have y5 := HT.out.y.cell 5 _ rfl
  have yl := HT.out.y.lt
  go_wp2_with fail
  refine (order_Cmp a b w2 _ _ (HG.out w2 HT.out.b).num (HG.out w2 HT.out.b).weak (HJ.out.up HT.out.b) (HJ2.out.up HT.out.b) HRA.out HRB.out).mono ?_
  obtain ⟨z, hz⟩ : ∃ z : Int, cmpJ a b = z := ⟨_, rfl⟩
  rw [hz]
  have HZ := Keep.mk hz
  clear hz
  rintro r w3 ⟨rfl, hb3⟩
  replace HT := Keep.mk (HT.out.below hb3)
  clear hb3 HRA HRB HJ HJ2 HG
  clear x0 x1 x2 x3 x4 x5 y0 y1 y2 y3 y4 y5 xl yl
  go_wp2_with fail
  refine (calc_truth2 (decide (z = 0)) _).mono ?_
  rintro r w4 ⟨q, rfl, hq, hb4⟩
  replace HT := Keep.mk (HT.out.below hb4)
  clear hb4
  have r0 := HT.out.r.cell 0 _ rfl
  have f0 := HT.out.r.froz 0
  have r1 := HT.out.r.cell 1 _ rfl
  have f1 := HT.out.r.froz 1
  have r2 := HT.out.r.cell 2 _ rfl
  have f2 := HT.out.r.froz 2
  have r3 := HT.out.r.cell 3 _ rfl
  have f3 := HT.out.r.froz 3
  have r4 := HT.out.r.cell 4 _ rfl
  have f4 := HT.out.r.froz 4
  have r5 := HT.out.r.cell 5 _ rfl
  have f5 := HT.out.r.froz 5
  have rl := HT.out.r.lt
  go_wp2
  refine bodyPost_ret (v := .tuple #[.agg #[.int .i64 q, .int .i64 0, .int .i64 0, .string ⟨#[]⟩, .slice none 0 0, .slice none 0 0], .int .i64 0]) ?_ rfl ⟨_, rfl, by rw [HZ.out]; exact hq.out _ _, HT.out.b.trans (six_below w4 (w.heap.size + 2) (.int .i64 q) (.int .i64 0) (.int .i64 0) (.string ⟨#[]⟩) (.slice none 0 0) (.slice none 0 0) (by omega))⟩
  simp [results, Tryz.results8, go_sem, r0, r1, r2, r3, r4, r5]
set_option maxRecDepth 100000 in
set_option maxHeartbeats 4000000 in
theorem oper_ne (a b : JV) (w : World) (cs cs2 : List Value) (hG : GlobW w) (hJ : JAt w w.heap.size a cs) (hJ2 : JAt w w.heap.size b cs2) (ha : rightJ a = 0) (hb : rightJ b = 0) :
    Calls Tryz.prog 8 #[.string ⟨#[33, 61]⟩, .agg cs.toArray, .agg cs2.toArray] w fun r w' => OpPost w r w' (truthV (!(decide (cmpJ a b = 0))), 0) := by
  obtain ⟨k, m, e, s, A, n, c, A', n', c', rfl⟩ := hJ.inn.cells
  obtain ⟨k2, m2, e2, s2, B, n2, d, B', n2', d', rfl⟩ := hJ2.inn.cells
  have HG := Keep.mk (fun W (hb : Below w.heap.size w W) => hG.below hb)
  have HJ := Keep.mk hJ
  have HJ2 := Keep.mk hJ2
  have HRA := Keep.mk ha
  have HRB := Keep.mk hb
  have HBL := Keep.mk (show badL [a, b] = 0 by show (if rightJ a ≠ 0 then rightJ a else if rightJ b ≠ 0 then rightJ b else 0) = 0; rw [ha, hb]; rfl)
  have HS := Keep.mk (fun W => calc_sign ⟨#[33, 61]⟩ W)
  rw [show Lib.containsS signsB ⟨#[33, 61]⟩ = true by decide] at HS
  have HT := Keep.mk (OpS.new w k m e s A n c A' n' c' k2 m2 e2 s2 B n2 d B' n2' d' 27 27 27)
  clear hG hJ hJ2 ha hb
  show Calls _ _ #[.string ⟨#[33, 61]⟩, .agg #[.int .i64 k, .int .i64 m, .int .i64 e, .string s, .slice A n c, .slice A' n' c'], .agg #[.int .i64 k2, .int .i64 m2, .int .i64 e2, .string s2, .slice B n2 d, .slice B' n2' d']] w _
  go_enter Tryz.func8, Tryz.ntmps8
  go_wp2_with fail
  refine calls_world (fun W => OpS w W (cells6 k m e s A n c A' n' c') (cells6 k2 m2 e2 s2 B n2 d B' n2' d')) HT.out ?_
  clear HT
  rintro W0 HT
  refine (HS.out W0).mono ?_
  rintro r w1 ⟨rfl, hb1⟩
  replace HT := Keep.mk (HT.below hb1)
  clear hb1 HS
  have x0 := HT.out.x.cell 0 _ rfl
  have x1 := HT.out.x.cell 1 _ rfl
  have x2 := HT.out.x.cell 2 _ rfl
  have x3 := HT.out.x.cell 3 _ rfl
  have x4 := HT.out.x.cell 4 _ rfl
  have x5 := HT.out.x.cell 5 _ rfl
  have xl := HT.out.x.lt
  have y0 := HT.out.y.cell 0 _ rfl
  have y1 := HT.out.y.cell 1 _ rfl
  have y2 := HT.out.y.cell 2 _ rfl
  have y3 := HT.out.y.cell 3 _ rfl
  have y4 := HT.out.y.cell 4 _ rfl
  have y5 := HT.out.y.cell 5 _ rfl
  have yl := HT.out.y.lt
  have HV := Keep.mk (two_vals w1 a b k m e s A n c A' n' c' k2 m2 e2 s2 B n2 d B' n2' d' (HJ.out.up HT.out.b) (HJ2.out.up HT.out.b) 27)
  go_wp2_with fail
  refine (calc_right [a, b] _ 2 _ (HG.out _ (up HT.out.b (al1 _ _))).weak HV.out).mono ?_
  rw [HBL.out]
  rintro r w2 ⟨rfl, hb2⟩
  replace HT := Keep.mk (HT.out.below (up (al1 _ _) hb2))
  clear hb2 HBL HV
  clear x0 x1 x2 x3 x4 x5 y0 y1 y2 y3 y4 y5 xl yl
  have x0 := HT.out.x.cell 0 _ rfl
  have x1 := HT.out.x.cell 1 _ rfl
  have x2 := HT.out.x.cell 2 _ rfl
  have x3 := HT.out.x.cell 3 _ rfl
  have x4 := HT.out.x.cell 4 _ rfl
  have x5 := HT.out.x.cell 5 _ rfl
  have xl := HT.out.x.lt
  have y0 := HT.out.y.cell 0 _ rfl
  have y1 := HT.out.y.cell 1 _ rfl
  have y2 := HT.out.y.cell 2 _ rfl
  have y3 := HT.out.y.cell 3 _ rfl
  have y4 := HT.out.y.cell 4 _ rfl
  have y5 := HT.out.y.cell 5 _ rfl
  have yl := HT.out.y.lt
  go_wp2_with fail
  refine (order_Cmp a b w2 _ _ (HG.out w2 HT.out.b).num (HG.out w2 HT.out.b).weak (HJ.out.up HT.out.b) (HJ2.out.up HT.out.b) HRA.out HRB.out).mono ?_
  obtain ⟨z, hz⟩ : ∃ z : Int, cmpJ a b = z := ⟨_, rfl⟩
  rw [hz]
  have HZ := Keep.mk hz
  clear hz
  rintro r w3 ⟨rfl, hb3⟩
  replace HT := Keep.mk (HT.out.below hb3)
  clear hb3 HRA HRB HJ HJ2 HG
  clear x0 x1 x2 x3 x4 x5 y0 y1 y2 y3 y4 y5 xl yl
  go_wp2_with fail
  refine (calc_truth2 (!(decide (z = 0))) _).mono ?_
  rintro r w4 ⟨q, rfl, hq, hb4⟩
  replace HT := Keep.mk (HT.out.below hb4)
  clear hb4
  have r0 := HT.out.r.cell 0 _ rfl
  have f0 := HT.out.r.froz 0
  have r1 := HT.out.r.cell 1 _ rfl
  have f1 := HT.out.r.froz 1
  have r2 := HT.out.r.cell 2 _ rfl
  have f2 := HT.out.r.froz 2
  have r3 := HT.out.r.cell 3 _ rfl
  have f3 := HT.out.r.froz 3
  have r4 := HT.out.r.cell 4 _ rfl
  have f4 := HT.out.r.froz 4
  have r5 := HT.out.r.cell 5 _ rfl
  have f5 := HT.out.r.froz 5
  have rl := HT.out.r.lt
  go_wp2
  refine bodyPost_ret (v := .tuple #[.agg #[.int .i64 q, .int .i64 0, .int .i64 0, .string ⟨#[]⟩, .slice none 0 0, .slice none 0 0], .int .i64 0]) ?_ rfl ⟨_, rfl, by rw [HZ.out]; exact hq.out _ _, HT.out.b.trans (six_below w4 (w.heap.size + 2) (.int .i64 q) (.int .i64 0) (.int .i64 0) (.string ⟨#[]⟩) (.slice none 0 0) (.slice none 0 0) (by omega))⟩
  simp [results, Tryz.results8, go_sem, r0, r1, r2, r3, r4, r5]
set_option maxRecDepth 100000 in
set_option maxHeartbeats 4000000 in
theorem oper_lt (a b : JV) (w : World) (cs cs2 : List Value) (hG : GlobW w) (hJ : JAt w w.heap.size a cs) (hJ2 : JAt w w.heap.size b cs2) (ha : rightJ a = 0) (hb : rightJ b = 0) :
    Calls Tryz.prog 8 #[.string ⟨#[60]⟩, .agg cs.toArray, .agg cs2.toArray] w fun r w' => OpPost w r w' (truthV (decide (cmpJ a b < 0)), 0) := by
  obtain ⟨k, m, e, s, A, n, c, A', n', c', rfl⟩ := hJ.inn.cells
  obtain ⟨k2, m2, e2, s2, B, n2, d, B', n2', d', rfl⟩ := hJ2.inn.cells
  have HG := Keep.mk (fun W (hb : Below w.heap.size w W) => hG.below hb)
  have HJ := Keep.mk hJ
  have HJ2 := Keep.mk hJ2
  have HRA := Keep.mk ha
  have HRB := Keep.mk hb
  have HBL := Keep.mk (show badL [a, b] = 0 by show (if rightJ a ≠ 0 then rightJ a else if rightJ b ≠ 0 then rightJ b else 0) = 0; rw [ha, hb]; rfl)
  have HS := Keep.mk (fun W => calc_sign ⟨#[60]⟩ W)
  rw [show Lib.containsS signsB ⟨#[60]⟩ = true by decide] at HS
  have HT := Keep.mk (OpS.new w k m e s A n c A' n' c' k2 m2 e2 s2 B n2 d B' n2' d' 27 27 27)
  clear hG hJ hJ2 ha hb
  show Calls _ _ #[.string ⟨#[60]⟩, .agg #[.int .i64 k, .int .i64 m, .int .i64 e, .string s, .slice A n c, .slice A' n' c'], .agg #[.int .i64 k2, .int .i64 m2, .int .i64 e2, .string s2, .slice B n2 d, .slice B' n2' d']] w _
  go_enter Tryz.func8, Tryz.ntmps8
  go_wp2_with fail
  refine calls_world (fun W => OpS w W (cells6 k m e s A n c A' n' c') (cells6 k2 m2 e2 s2 B n2 d B' n2' d')) HT.out ?_
  clear HT
  rintro W0 HT
  refine (HS.out W0).mono ?_
  rintro r w1 ⟨rfl, hb1⟩
  replace HT := Keep.mk (HT.below hb1)
  clear hb1 HS
  have x0 := HT.out.x.cell 0 _ rfl
  have x1 := HT.out.x.cell 1 _ rfl
  have x2 := HT.out.x.cell 2 _ rfl
  have x3 := HT.out.x.cell 3 _ rfl
  have x4 := HT.out.x.cell 4 _ rfl
  have x5 := HT.out.x.cell 5 _ rfl
  have xl := HT.out.x.lt
  have y0 := HT.out.y.cell 0 _ rfl
  have y1 := HT.out.y.cell 1 _ rfl
  have y2 := HT.out.y.cell 2 _ rfl
  have y3 := HT.out.y.cell 3 _ rfl
  have y4 := HT.out.y.cell 4 _ rfl
  have y5 := HT.out.y.cell 5 _ rfl
  have yl := HT.out.y.lt
  have HV := Keep.mk (two_vals w1 a b k m e s A n c A' n' c' k2 m2 e2 s2 B n2 d B' n2' d' (HJ.out.up HT.out.b) (HJ2.out.up HT.out.b) 27)
  go_wp2_with fail
  refine (calc_right [a, b] _ 2 _ (HG.out _ (up HT.out.b (al1 _ _))).weak HV.out).mono ?_
  rw [HBL.out]
  rintro r w2 ⟨rfl, hb2⟩
  replace HT := Keep.mk (HT.out.below (up (al1 _ _) hb2))
  clear hb2 HBL HV
  clear x0 x1 x2 x3 x4 x5 y0 y1 y2 y3 y4 y5 xl yl
  have x0 := HT.out.x.cell 0 _ rfl
  have x1 := HT.out.x.cell 1 _ rfl
  have x2 := HT.out.x.cell 2 _ rfl
  have x3 := HT.out.x.cell 3 _ rfl
  have x4 := HT.out.x.cell 4 _ rfl
  have x5 := HT.out.x.cell 5 _ rfl
  have xl := HT.out.x.lt
  have y0 := HT.out.y.cell 0 _ rfl
  have y1 := HT.out.y.cell 1 _ rfl
  have y2 := HT.out.y.cell 2 _ rfl
  have y3 := HT.out.y.cell 3 _ rfl
  have y4 := HT.out.y.cell 4 _ rfl
  have y5 := HT.out.y.cell 5 _ rfl
  have yl := HT.out.y.lt
  go_wp2_with fail
  refine (order_Cmp a b w2 _ _ (HG.out w2 HT.out.b).num (HG.out w2 HT.out.b).weak (HJ.out.up HT.out.b) (HJ2.out.up HT.out.b) HRA.out HRB.out).mono ?_
  obtain ⟨z, hz⟩ : ∃ z : Int, cmpJ a b = z := ⟨_, rfl⟩
  rw [hz]
  have HZ := Keep.mk hz
  clear hz
  rintro r w3 ⟨rfl, hb3⟩
  replace HT := Keep.mk (HT.out.below hb3)
  clear hb3 HRA HRB HJ HJ2 HG
  clear x0 x1 x2 x3 x4 x5 y0 y1 y2 y3 y4 y5 xl yl
  go_wp2_with fail
  refine (calc_truth2 (decide (z < 0)) _).mono ?_
  rintro r w4 ⟨q, rfl, hq, hb4⟩
  replace HT := Keep.mk (HT.out.below hb4)
  clear hb4
  have r0 := HT.out.r.cell 0 _ rfl
  have f0 := HT.out.r.froz 0
  have r1 := HT.out.r.cell 1 _ rfl
  have f1 := HT.out.r.froz 1
  have r2 := HT.out.r.cell 2 _ rfl
  have f2 := HT.out.r.froz 2
  have r3 := HT.out.r.cell 3 _ rfl
  have f3 := HT.out.r.froz 3
  have r4 := HT.out.r.cell 4 _ rfl
  have f4 := HT.out.r.froz 4
  have r5 := HT.out.r.cell 5 _ rfl
  have f5 := HT.out.r.froz 5
  have rl := HT.out.r.lt
  go_wp2
  refine bodyPost_ret (v := .tuple #[.agg #[.int .i64 q, .int .i64 0, .int .i64 0, .string ⟨#[]⟩, .slice none 0 0, .slice none 0 0], .int .i64 0]) ?_ rfl ⟨_, rfl, by rw [HZ.out]; exact hq.out _ _, HT.out.b.trans (six_below w4 (w.heap.size + 2) (.int .i64 q) (.int .i64 0) (.int .i64 0) (.string ⟨#[]⟩) (.slice none 0 0) (.slice none 0 0) (by omega))⟩
  simp [results, Tryz.results8, go_sem, r0, r1, r2, r3, r4, r5]
set_option maxRecDepth 100000 in
set_option maxHeartbeats 4000000 in
theorem oper_le (a b : JV) (w : World) (cs cs2 : List Value) (hG : GlobW w) (hJ : JAt w w.heap.size a cs) (hJ2 : JAt w w.heap.size b cs2) (ha : rightJ a = 0) (hb : rightJ b = 0) :
    Calls Tryz.prog 8 #[.string ⟨#[60, 61]⟩, .agg cs.toArray, .agg cs2.toArray] w fun r w' => OpPost w r w' (truthV (decide (cmpJ a b ≤ 0)), 0) := by
  obtain ⟨k, m, e, s, A, n, c, A', n', c', rfl⟩ := hJ.inn.cells
  obtain ⟨k2, m2, e2, s2, B, n2, d, B', n2', d', rfl⟩ := hJ2.inn.cells
  have HG := Keep.mk (fun W (hb : Below w.heap.size w W) => hG.below hb)
  have HJ := Keep.mk hJ
  have HJ2 := Keep.mk hJ2
  have HRA := Keep.mk ha
  have HRB := Keep.mk hb
  have HBL := Keep.mk (show badL [a, b] = 0 by show (if rightJ a ≠ 0 then rightJ a else if rightJ b ≠ 0 then rightJ b else 0) = 0; rw [ha, hb]; rfl)
  have HS := Keep.mk (fun W => calc_sign ⟨#[60, 61]⟩ W)
  rw [show Lib.containsS signsB ⟨#[60, 61]⟩ = true by decide] at HS
  have HT := Keep.mk (OpS.new w k m e s A n c A' n' c' k2 m2 e2 s2 B n2 d B' n2' d' 27 27 27)
  clear hG hJ hJ2 ha hb
  show Calls _ _ #[.string ⟨#[60, 61]⟩, .agg #[.int .i64 k, .int .i64 m, .int .i64 e, .string s, .slice A n c, .slice A' n' c'], .agg #[.int .i64 k2, .int .i64 m2, .int .i64 e2, .string s2, .slice B n2 d, .slice B' n2' d']] w _
  go_enter Tryz.func8, Tryz.ntmps8
  go_wp2_with fail
  refine calls_world (fun W => OpS w W (cells6 k m e s A n c A' n' c') (cells6 k2 m2 e2 s2 B n2 d B' n2' d')) HT.out ?_
  clear HT
  rintro W0 HT
  refine (HS.out W0).mono ?_
  rintro r w1 ⟨rfl, hb1⟩
  replace HT := Keep.mk (HT.below hb1)
  clear hb1 HS
  have x0 := HT.out.x.cell 0 _ rfl
  have x1 := HT.out.x.cell 1 _ rfl
  have x2 := HT.out.x.cell 2 _ rfl
  have x3 := HT.out.x.cell 3 _ rfl
  have x4 := HT.out.x.cell 4 _ rfl
  have x5 := HT.out.x.cell 5 _ rfl
  have xl := HT.out.x.lt
  have y0 := HT.out.y.cell 0 _ rfl
  have y1 := HT.out.y.cell 1 _ rfl
  have y2 := HT.out.y.cell 2 _ rfl
  have y3 := HT.out.y.cell 3 _ rfl
  have y4 := HT.out.y.cell 4 _ rfl
  have y5 := HT.out.y.cell 5 _ rfl
  have yl := HT.out.y.lt
  have HV := Keep.mk (two_vals w1 a b k m e s A n c A' n' c' k2 m2 e2 s2 B n2 d B' n2' d' (HJ.out.up HT.out.b) (HJ2.out.up HT.out.b) 27)
  go_wp2_with fail
  refine (calc_right [a, b] _ 2 _ (HG.out _ (up HT.out.b (al1 _ _))).weak HV.out).mono ?_
  rw [HBL.out]
  rintro r w2 ⟨rfl, hb2⟩
  replace HT := Keep.mk (HT.out.below (up (al1 _ _) hb2))
  clear hb2 HBL HV
  clear x0 x1 x2 x3 x4 x5 y0 y1 y2 y3 y4 y5 xl yl
  have x0 := HT.out.x.cell 0 _ rfl
  have x1 := HT.out.x.cell 1 _ rfl
  have x2 := HT.out.x.cell 2 _ rfl
  have x3 := HT.out.x.cell 3 _ rfl
  have x4 := HT.out.x.cell 4 _ rfl
  have x5 := HT.out.x.cell 5 _ rfl
  have xl := HT.out.x.lt
  have y0 := HT.out.y.cell 0 _ rfl
  have y1 := HT.out.y.cell 1 _ rfl
  have y2 := HT.out.y.cell 2 _ rfl
  have y3 := HT.out.y.cell 3 _ rfl
  have y4 := HT.out.y.cell 4 _ rfl
  have y5 := HT.out.y.cell 5 _ rfl
  have yl := HT.out.y.lt
  go_wp2_with fail
  refine (order_Cmp a b w2 _ _ (HG.out w2 HT.out.b).num (HG.out w2 HT.out.b).weak (HJ.out.up HT.out.b) (HJ2.out.up HT.out.b) HRA.out HRB.out).mono ?_
  obtain ⟨z, hz⟩ : ∃ z : Int, cmpJ a b = z := ⟨_, rfl⟩
  rw [hz]
  have HZ := Keep.mk hz
  clear hz
  rintro r w3 ⟨rfl, hb3⟩
  replace HT := Keep.mk (HT.out.below hb3)
  clear hb3 HRA HRB HJ HJ2 HG
  clear x0 x1 x2 x3 x4 x5 y0 y1 y2 y3 y4 y5 xl yl
  go_wp2_with fail
  refine (calc_truth2 (decide (z ≤ 0)) _).mono ?_
  rintro r w4 ⟨q, rfl, hq, hb4⟩
  replace HT := Keep.mk (HT.out.below hb4)
  clear hb4
  have r0 := HT.out.r.cell 0 _ rfl
  have f0 := HT.out.r.froz 0
  have r1 := HT.out.r.cell 1 _ rfl
  have f1 := HT.out.r.froz 1
  have r2 := HT.out.r.cell 2 _ rfl
  have f2 := HT.out.r.froz 2
  have r3 := HT.out.r.cell 3 _ rfl
  have f3 := HT.out.r.froz 3
  have r4 := HT.out.r.cell 4 _ rfl
  have f4 := HT.out.r.froz 4
  have r5 := HT.out.r.cell 5 _ rfl
  have f5 := HT.out.r.froz 5
  have rl := HT.out.r.lt
  go_wp2
  refine bodyPost_ret (v := .tuple #[.agg #[.int .i64 q, .int .i64 0, .int .i64 0, .string ⟨#[]⟩, .slice none 0 0, .slice none 0 0], .int .i64 0]) ?_ rfl ⟨_, rfl, by rw [HZ.out]; exact hq.out _ _, HT.out.b.trans (six_below w4 (w.heap.size + 2) (.int .i64 q) (.int .i64 0) (.int .i64 0) (.string ⟨#[]⟩) (.slice none 0 0) (.slice none 0 0) (by omega))⟩
  simp [results, Tryz.results8, go_sem, r0, r1, r2, r3, r4, r5]
set_option maxRecDepth 100000 in
set_option maxHeartbeats 4000000 in
theorem oper_gt (a b : JV) (w : World) (cs cs2 : List Value) (hG : GlobW w) (hJ : JAt w w.heap.size a cs) (hJ2 : JAt w w.heap.size b cs2) (ha : rightJ a = 0) (hb : rightJ b = 0) :
    Calls Tryz.prog 8 #[.string ⟨#[62]⟩, .agg cs.toArray, .agg cs2.toArray] w fun r w' => OpPost w r w' (truthV (decide (cmpJ a b > 0)), 0) := by
  obtain ⟨k, m, e, s, A, n, c, A', n', c', rfl⟩ := hJ.inn.cells
  obtain ⟨k2, m2, e2, s2, B, n2, d, B', n2', d', rfl⟩ := hJ2.inn.cells
  have HG := Keep.mk (fun W (hb : Below w.heap.size w W) => hG.below hb)
  have HJ := Keep.mk hJ
  have HJ2 := Keep.mk hJ2
  have HRA := Keep.mk ha
  have HRB := Keep.mk hb
  have HBL := Keep.mk (show badL [a, b] = 0 by show (if rightJ a ≠ 0 then rightJ a else if rightJ b ≠ 0 then rightJ b else 0) = 0; rw [ha, hb]; rfl)
  have HS := Keep.mk (fun W => calc_sign ⟨#[62]⟩ W)
  rw [show Lib.containsS signsB ⟨#[62]⟩ = true by decide] at HS
  have HT := Keep.mk (OpS.new w k m e s A n c A' n' c' k2 m2 e2 s2 B n2 d B' n2' d' 27 27 27)
  clear hG hJ hJ2 ha hb
  show Calls _ _ #[.string ⟨#[62]⟩, .agg #[.int .i64 k, .int .i64 m, .int .i64 e, .string s, .slice A n c, .slice A' n' c'], .agg #[.int .i64 k2, .int .i64 m2, .int .i64 e2, .string s2, .slice B n2 d, .slice B' n2' d']] w _
  go_enter Tryz.func8, Tryz.ntmps8
  go_wp2_with fail
  refine calls_world (fun W => OpS w W (cells6 k m e s A n c A' n' c') (cells6 k2 m2 e2 s2 B n2 d B' n2' d')) HT.out ?_
  clear HT
  rintro W0 HT
  refine (HS.out W0).mono ?_
  rintro r w1 ⟨rfl, hb1⟩
  replace HT := Keep.mk (HT.below hb1)
  clear hb1 HS
  have x0 := HT.out.x.cell 0 _ rfl
  have x1 := HT.out.x.cell 1 _ rfl
  have x2 := HT.out.x.cell 2 _ rfl
  have x3 := HT.out.x.cell 3 _ rfl
  have x4 := HT.out.x.cell 4 _ rfl
  have x5 := HT.out.x.cell 5 _ rfl
  have xl := HT.out.x.lt
  have y0 := HT.out.y.cell 0 _ rfl
  have y1 := HT.out.y.cell 1 _ rfl
  have y2 := HT.out.y.cell 2 _ rfl
  have y3 := HT.out.y.cell 3 _ rfl
  have y4 := HT.out.y.cell 4 _ rfl
  have y5 := HT.out.y.cell 5 _ rfl
  have yl := HT.out.y.lt
  have HV := Keep.mk (two_vals w1 a b k m e s A n c A' n' c' k2 m2 e2 s2 B n2 d B' n2' d' (HJ.out.up HT.out.b) (HJ2.out.up HT.out.b) 27)
  go_wp2_with fail
  refine (calc_right [a, b] _ 2 _ (HG.out _ (up HT.out.b (al1 _ _))).weak HV.out).mono ?_
  rw [HBL.out]
  rintro r w2 ⟨rfl, hb2⟩
  replace HT := Keep.mk (HT.out.below (up (al1 _ _) hb2))
  clear hb2 HBL HV
  clear x0 x1 x2 x3 x4 x5 y0 y1 y2 y3 y4 y5 xl yl
  have x0 := HT.out.x.cell 0 _ rfl
  have x1 := HT.out.x.cell 1 _ rfl
  have x2 := HT.out.x.cell 2 _ rfl
  have x3 := HT.out.x.cell 3 _ rfl
  have x4 := HT.out.x.cell 4 _ rfl
  have x5 := HT.out.x.cell 5 _ rfl
  have xl := HT.out.x.lt
  have y0 := HT.out.y.cell 0 _ rfl
  have y1 := HT.out.y.cell 1 _ rfl
  have y2 := HT.out.y.cell 2 _ rfl
  have y3 := HT.out.y.cell 3 _ rfl
  have y4 := HT.out.y.cell 4 _ rfl
  have y5 := HT.out.y.cell 5 _ rfl
  have yl := HT.out.y.lt
  go_wp2_with fail
  refine (order_Cmp a b w2 _ _ (HG.out w2 HT.out.b).num (HG.out w2 HT.out.b).weak (HJ.out.up HT.out.b) (HJ2.out.up HT.out.b) HRA.out HRB.out).mono ?_
  obtain ⟨z, hz⟩ : ∃ z : Int, cmpJ a b = z := ⟨_, rfl⟩
  rw [hz]
  have HZ := Keep.mk hz
  clear hz
  rintro r w3 ⟨rfl, hb3⟩
  replace HT := Keep.mk (HT.out.below hb3)
  clear hb3 HRA HRB HJ HJ2 HG
  clear x0 x1 x2 x3 x4 x5 y0 y1 y2 y3 y4 y5 xl yl
  go_wp2_with fail
  refine (calc_truth2 (decide (z > 0)) _).mono ?_
  rintro r w4 ⟨q, rfl, hq, hb4⟩
  replace HT := Keep.mk (HT.out.below hb4)
  clear hb4
  have r0 := HT.out.r.cell 0 _ rfl
  have f0 := HT.out.r.froz 0
  have r1 := HT.out.r.cell 1 _ rfl
  have f1 := HT.out.r.froz 1
  have r2 := HT.out.r.cell 2 _ rfl
  have f2 := HT.out.r.froz 2
  have r3 := HT.out.r.cell 3 _ rfl
  have f3 := HT.out.r.froz 3
  have r4 := HT.out.r.cell 4 _ rfl
  have f4 := HT.out.r.froz 4
  have r5 := HT.out.r.cell 5 _ rfl
  have f5 := HT.out.r.froz 5
  have rl := HT.out.r.lt
  go_wp2
  refine bodyPost_ret (v := .tuple #[.agg #[.int .i64 q, .int .i64 0, .int .i64 0, .string ⟨#[]⟩, .slice none 0 0, .slice none 0 0], .int .i64 0]) ?_ rfl ⟨_, rfl, by rw [HZ.out]; exact hq.out _ _, HT.out.b.trans (six_below w4 (w.heap.size + 2) (.int .i64 q) (.int .i64 0) (.int .i64 0) (.string ⟨#[]⟩) (.slice none 0 0) (.slice none 0 0) (by omega))⟩
  simp [results, Tryz.results8, go_sem, r0, r1, r2, r3, r4, r5]
set_option maxRecDepth 100000 in
set_option maxHeartbeats 4000000 in
theorem oper_ge (a b : JV) (w : World) (cs cs2 : List Value) (hG : GlobW w) (hJ : JAt w w.heap.size a cs) (hJ2 : JAt w w.heap.size b cs2) (ha : rightJ a = 0) (hb : rightJ b = 0) :
    Calls Tryz.prog 8 #[.string ⟨#[62, 61]⟩, .agg cs.toArray, .agg cs2.toArray] w fun r w' => OpPost w r w' (truthV (decide (cmpJ a b ≥ 0)), 0) := by
  obtain ⟨k, m, e, s, A, n, c, A', n', c', rfl⟩ := hJ.inn.cells
  obtain ⟨k2, m2, e2, s2, B, n2, d, B', n2', d', rfl⟩ := hJ2.inn.cells
  have HG := Keep.mk (fun W (hb : Below w.heap.size w W) => hG.below hb)
  have HJ := Keep.mk hJ
  have HJ2 := Keep.mk hJ2
  have HRA := Keep.mk ha
  have HRB := Keep.mk hb
  have HBL := Keep.mk (show badL [a, b] = 0 by show (if rightJ a ≠ 0 then rightJ a else if rightJ b ≠ 0 then rightJ b else 0) = 0; rw [ha, hb]; rfl)
  have HS := Keep.mk (fun W => calc_sign ⟨#[62, 61]⟩ W)
  rw [show Lib.containsS signsB ⟨#[62, 61]⟩ = true by decide] at HS
  have HT := Keep.mk (OpS.new w k m e s A n c A' n' c' k2 m2 e2 s2 B n2 d B' n2' d' 27 27 27)
  clear hG hJ hJ2 ha hb
  show Calls _ _ #[.string ⟨#[62, 61]⟩, .agg #[.int .i64 k, .int .i64 m, .int .i64 e, .string s, .slice A n c, .slice A' n' c'], .agg #[.int .i64 k2, .int .i64 m2, .int .i64 e2, .string s2, .slice B n2 d, .slice B' n2' d']] w _
  go_enter Tryz.func8, Tryz.ntmps8
  go_wp2_with fail
  refine calls_world (fun W => OpS w W (cells6 k m e s A n c A' n' c') (cells6 k2 m2 e2 s2 B n2 d B' n2' d')) HT.out ?_
  clear HT
  rintro W0 HT
  refine (HS.out W0).mono ?_
  rintro r w1 ⟨rfl, hb1⟩
  replace HT := Keep.mk (HT.below hb1)
  clear hb1 HS
  have x0 := HT.out.x.cell 0 _ rfl
  have x1 := HT.out.x.cell 1 _ rfl
  have x2 := HT.out.x.cell 2 _ rfl
  have x3 := HT.out.x.cell 3 _ rfl
  have x4 := HT.out.x.cell 4 _ rfl
  have x5 := HT.out.x.cell 5 _ rfl
  have xl := HT.out.x.lt
  have y0 := HT.out.y.cell 0 _ rfl
  have y1 := HT.out.y.cell 1 _ rfl
  have y2 := HT.out.y.cell 2 _ rfl
  have y3 := HT.out.y.cell 3 _ rfl
  have y4 := HT.out.y.cell 4 _ rfl
  have y5 := HT.out.y.cell 5 _ rfl
  have yl := HT.out.y.lt
  have HV := Keep.mk (two_vals w1 a b k m e s A n c A' n' c' k2 m2 e2 s2 B n2 d B' n2' d' (HJ.out.up HT.out.b) (HJ2.out.up HT.out.b) 27)
  go_wp2_with fail
  refine (calc_right [a, b] _ 2 _ (HG.out _ (up HT.out.b (al1 _ _))).weak HV.out).mono ?_
  rw [HBL.out]
  rintro r w2 ⟨rfl, hb2⟩
  replace HT := Keep.mk (HT.out.below (up (al1 _ _) hb2))
  clear hb2 HBL HV
  clear x0 x1 x2 x3 x4 x5 y0 y1 y2 y3 y4 y5 xl yl
  have x0 := HT.out.x.cell 0 _ rfl
  have x1 := HT.out.x.cell 1 _ rfl
  have x2 := HT.out.x.cell 2 _ rfl
  have x3 := HT.out.x.cell 3 _ rfl
  have x4 := HT.out.x.cell 4 _ rfl
  have x5 := HT.out.x.cell 5 _ rfl
  have xl := HT.out.x.lt
  have y0 := HT.out.y.cell 0 _ rfl
  have y1 := HT.out.y.cell 1 _ rfl
  have y2 := HT.out.y.cell 2 _ rfl
  have y3 := HT.out.y.cell 3 _ rfl
  have y4 := HT.out.y.cell 4 _ rfl
  have y5 := HT.out.y.cell 5 _ rfl
  have yl := HT.out.y.lt
  go_wp2_with fail
  refine (order_Cmp a b w2 _ _ (HG.out w2 HT.out.b).num (HG.out w2 HT.out.b).weak (HJ.out.up HT.out.b) (HJ2.out.up HT.out.b) HRA.out HRB.out).mono ?_
  obtain ⟨z, hz⟩ : ∃ z : Int, cmpJ a b = z := ⟨_, rfl⟩
  rw [hz]
  have HZ := Keep.mk hz
  clear hz
  rintro r w3 ⟨rfl, hb3⟩
  replace HT := Keep.mk (HT.out.below hb3)
  clear hb3 HRA HRB HJ HJ2 HG
  clear x0 x1 x2 x3 x4 x5 y0 y1 y2 y3 y4 y5 xl yl
  go_wp2_with fail
  refine (calc_truth2 (decide (z ≥ 0)) _).mono ?_
  rintro r w4 ⟨q, rfl, hq, hb4⟩
  replace HT := Keep.mk (HT.out.below hb4)
  clear hb4
  have r0 := HT.out.r.cell 0 _ rfl
  have f0 := HT.out.r.froz 0
  have r1 := HT.out.r.cell 1 _ rfl
  have f1 := HT.out.r.froz 1
  have r2 := HT.out.r.cell 2 _ rfl
  have f2 := HT.out.r.froz 2
  have r3 := HT.out.r.cell 3 _ rfl
  have f3 := HT.out.r.froz 3
  have r4 := HT.out.r.cell 4 _ rfl
  have f4 := HT.out.r.froz 4
  have r5 := HT.out.r.cell 5 _ rfl
  have f5 := HT.out.r.froz 5
  have rl := HT.out.r.lt
  go_wp2
  refine bodyPost_ret (v := .tuple #[.agg #[.int .i64 q, .int .i64 0, .int .i64 0, .string ⟨#[]⟩, .slice none 0 0, .slice none 0 0], .int .i64 0]) ?_ rfl ⟨_, rfl, by rw [HZ.out]; exact hq.out _ _, HT.out.b.trans (six_below w4 (w.heap.size + 2) (.int .i64 q) (.int .i64 0) (.int .i64 0) (.string ⟨#[]⟩) (.slice none 0 0) (.slice none 0 0) (by omega))⟩
  simp [results, Tryz.results8, go_sem, r0, r1, r2, r3, r4, r5]
end Go.Proofs.YtmacgdcmgbkfnaaGreatDoor
