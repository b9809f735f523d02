/- thimblelaw01.NumBack. Conditions: Glob; the number is of int64. -/
import Derived.Test.YtljemfajjeoecaaDoorWorks
import Derived.Test.YtljemfajjeoecaaDoorBackMath
namespace Go.Proofs.YtljemfajjeoecaaDoor
open Go Go.RowKit Go.Proofs Th
attribute [local go_sem] Above.cell Above.frozen

theorem nd_small {m e : Int} (h : right m e = true) : nd m ≤ 18 := by
  unfold nd
  have hs := right_size h
  by_cases h0 : m.natAbs = 0
  · rw [h0, Lib.nDigits_small (by omega)]; omega
  · have h1 := nDigits_ge m.natAbs h0
    have h2 : (10 : Nat) ^ (Lib.nDigits m.natAbs - 1) < 10 ^ 18 := by omega
    have := (Nat.pow_lt_pow_iff_right (a := 10) (by omega)).1 h2
    omega
theorem text_short {m e : Int} (h : right m e = true) : (textN m e).length ≤ 3000 := by
  have h1 := nd_small h
  have hx := right_exp h
  have hi := itoa_len e hx.1 hx.2
  have hd : (Lib.decDigits m.natAbs).length ≤ 18 := by rw [Lib.decDigits_length]; exact h1
  have hs : (sgn m).length ≤ 1 := by unfold sgn; split <;> simp
  have hp : (pad m e).length ≤ 100 := by
    unfold pad; split
    · rw [List.length_append, List.length_replicate]; omega
    · omega
  unfold textN
  split
  · simp only [List.length_append, List.length_replicate]; omega
  · split
    · simp only [List.length_append, List.length_take, List.length_drop, List.length_cons, List.length_nil]; omega
    · simp only [List.length_append, List.length_cons, List.length_nil]; omega
/-- the text of a number that may be, as bytes -/
theorem text_bytes {m e : Int} (h : right m e = true) : ∃ T : ByteArray, printRes (printN m e) = .tuple #[.string T, .int .i64 0] ∧ parseN T.data.toList = ((m, e), 0) ∧ T.size ≤ 2305843009213693952 := by
  refine ⟨⟨(textN m e).toArray⟩, ?_, parse_text m e h, ?_⟩
  · unfold printN; rw [if_pos h]; rfl
  · have := text_short h
    rw [size_list]
    show (textN m e).toArray.toList.length ≤ _
    simp; omega
theorem text_not {m e : Int} (h : right m e = false) : printRes (printN m e) = .tuple #[.string ⟨#[]⟩, .int .i64 10] := by
  unfold printN; rw [if_neg (by simp [h])]; rfl

set_option maxRecDepth 100000 in
theorem back_long (m1 e1 : Int) (_hm1 : I64 m1) (s : ByteArray) (hs : 5000 < s.size) (w : World) (hg : Glob w) :
    Calls Tryd.prog 8 #[.agg #[.int .i64 m1, .int .i64 e1], .string s] w fun r w' => r = .returned (.bool true) ∧ Below w.heap.size w w' := by
  go_enter Tryd.func8, Tryd.ntmps8
  go_wp2_with fail
  refine calls_world (fun W => Glob W ∧ Below w.heap.size w W ∧ Cell2 W (w.heap.size) (.int .i64 m1) (.int .i64 e1)) ⟨hg.below (al1 w _), al1 w _, (Cell2.newAt (by simp))⟩ ?_
  clear hg
  rintro W ⟨hg, B, c1⟩
  have dc1 := c1.c0
  have ec1 := c1.c1
  have lc1 := c1.lt
  refine (num_works _ hg).mono ?_
  rintro r W1 ⟨rfl, hb1⟩
  replace hg := hg.below hb1
  replace B := up B hb1
  clear dc1 ec1 lc1
  replace c1 := c1.below hb1
  have dc1 := c1.c0
  have ec1 := c1.c1
  have lc1 := c1.lt
  clear hb1
  go_wp2
  go_ret
  exact ⟨rfl, B⟩

set_option maxRecDepth 100000 in
theorem back_00 (m1 e1 : Int) (hm1 : I64 m1) (s : ByteArray) (hs : s.size ≤ 5000) (hp : printRes (printN m1 e1) = .tuple #[.string ⟨#[]⟩, .int .i64 10]) (c : Int) (hz : parseN s.data.toList = ((0, 0), c)) (hc : (c != 0) = true) (w : World) (hg : Glob w) :
    Calls Tryd.prog 8 #[.agg #[.int .i64 m1, .int .i64 e1], .string s] w fun r w' => r = .returned (.bool true) ∧ Below w.heap.size w w' := by
  have HP := Keep.mk hp
  clear hp
  have HZ := Keep.mk hz
  clear hz
  go_enter Tryd.func8, Tryd.ntmps8
  go_wp2_with fail
  refine calls_world (fun W => Glob W ∧ Below w.heap.size w W ∧ Cell2 W (w.heap.size) (.int .i64 m1) (.int .i64 e1)) ⟨hg.below (al1 w _), al1 w _, (Cell2.newAt (by simp))⟩ ?_
  clear hg
  rintro W ⟨hg, B, c1⟩
  have dc1 := c1.c0
  have ec1 := c1.c1
  have lc1 := c1.lt
  refine (num_works _ hg).mono ?_
  rintro r W1 ⟨rfl, hb1⟩
  replace hg := hg.below hb1
  replace B := up B hb1
  clear dc1 ec1 lc1
  replace c1 := c1.below hb1
  have dc1 := c1.c0
  have ec1 := c1.c1
  have lc1 := c1.lt
  clear hb1
  go_wp2_with fail
  refine (num_print m1 e1 hm1 _ hg).mono ?_
  rw [HP.out]
  rintro r W2 ⟨rfl, hb2⟩
  replace hg := hg.below hb2
  replace B := up B hb2
  clear dc1 ec1 lc1
  replace c1 := c1.below hb2
  have dc1 := c1.c0
  have ec1 := c1.c1
  have lc1 := c1.lt
  clear hb2
  go_wp2_with fail
  refine (num_Parse s (by omega) _ hg).mono ?_
  rw [HZ.out]
  simp only [numRes]
  rintro r W3 ⟨rfl, hb3⟩
  replace hg := hg.below hb3
  replace B := up B hb3
  clear dc1 ec1 lc1
  replace c1 := c1.below hb3
  have dc1 := c1.c0
  have ec1 := c1.c1
  have lc1 := c1.lt
  clear hb3
  go_wp2
  go_ret
  exact ⟨rfl, up B (al1 _ _)⟩

set_option maxRecDepth 100000 in
theorem back_01 (m1 e1 : Int) (hm1 : I64 m1) (s : ByteArray) (hs : s.size ≤ 5000) (hp : printRes (printN m1 e1) = .tuple #[.string ⟨#[]⟩, .int .i64 10]) (m f : Int) (hz : parseN s.data.toList = ((m, f), 0)) (hm : I64 m) (hr : right m f = true) (U : ByteArray) (hp2 : printRes (printN m f) = .tuple #[.string U, .int .i64 0]) (hq2 : parseN U.data.toList = ((m, f), 0)) (hus : U.size ≤ 2305843009213693952) (w : World) (hg : Glob w) :
    Calls Tryd.prog 8 #[.agg #[.int .i64 m1, .int .i64 e1], .string s] w fun r w' => r = .returned (.bool true) ∧ Below w.heap.size w w' := by
  have HP := Keep.mk hp
  clear hp
  have HZ := Keep.mk hz
  clear hz
  have HP2 := Keep.mk hp2
  clear hp2
  have HQ2 := Keep.mk hq2
  clear hq2
  have HR := Keep.mk hr
  clear hr
  go_enter Tryd.func8, Tryd.ntmps8
  go_wp2_with fail
  refine calls_world (fun W => Glob W ∧ Below w.heap.size w W ∧ Cell2 W (w.heap.size) (.int .i64 m1) (.int .i64 e1)) ⟨hg.below (al1 w _), al1 w _, (Cell2.newAt (by simp))⟩ ?_
  clear hg
  rintro W ⟨hg, B, c1⟩
  have dc1 := c1.c0
  have ec1 := c1.c1
  have lc1 := c1.lt
  refine (num_works _ hg).mono ?_
  rintro r W1 ⟨rfl, hb1⟩
  replace hg := hg.below hb1
  replace B := up B hb1
  clear dc1 ec1 lc1
  replace c1 := c1.below hb1
  have dc1 := c1.c0
  have ec1 := c1.c1
  have lc1 := c1.lt
  clear hb1
  go_wp2_with fail
  refine (num_print m1 e1 hm1 _ hg).mono ?_
  rw [HP.out]
  rintro r W2 ⟨rfl, hb2⟩
  replace hg := hg.below hb2
  replace B := up B hb2
  clear dc1 ec1 lc1
  replace c1 := c1.below hb2
  have dc1 := c1.c0
  have ec1 := c1.c1
  have lc1 := c1.lt
  clear hb2
  go_wp2_with fail
  refine (num_Parse s (by omega) _ hg).mono ?_
  rw [HZ.out]
  simp only [numRes]
  rintro r W3 ⟨rfl, hb3⟩
  replace hg := hg.below hb3
  replace B := up B hb3
  clear dc1 ec1 lc1
  replace c1 := c1.below hb3
  have dc1 := c1.c0
  have ec1 := c1.c1
  have lc1 := c1.lt
  clear hb3
  go_wp2_with fail
  clear dc1 ec1 lc1
  refine calls_world (fun W => Glob W ∧ Below w.heap.size w W ∧ Cell2 W (w.heap.size) (.int .i64 m1) (.int .i64 e1) ∧ Cell2 W W3.heap.size (.int .i64 m) (.int .i64 f)) ⟨hg.alloc _, up B (al1 _ _), c1.alloc _, Cell2.new _ _ _ _⟩ ?_
  clear hg B c1
  rintro W ⟨hg, B, c1, c3⟩
  have dc1 := c1.c0
  have ec1 := c1.c1
  have lc1 := c1.lt
  have dc3 := c3.c0
  have ec3 := c3.c1
  have lc3 := c3.lt
  refine (num_print m f hm _ hg).mono ?_
  rw [HP2.out]
  rintro r W4 ⟨rfl, hb4⟩
  replace hg := hg.below hb4
  replace B := up B hb4
  clear dc1 ec1 lc1
  replace c1 := c1.below hb4
  clear dc3 ec3 lc3
  replace c3 := c3.below hb4
  have dc1 := c1.c0
  have ec1 := c1.c1
  have lc1 := c1.lt
  have dc3 := c3.c0
  have ec3 := c3.c1
  have lc3 := c3.lt
  clear hb4
  go_wp2_with fail
  refine (num_Parse U hus _ hg).mono ?_
  rw [HQ2.out]
  simp only [numRes]
  rintro r W5 ⟨rfl, hb5⟩
  replace hg := hg.below hb5
  replace B := up B hb5
  clear dc1 ec1 lc1
  replace c1 := c1.below hb5
  clear dc3 ec3 lc3
  replace c3 := c3.below hb5
  have dc1 := c1.c0
  have ec1 := c1.c1
  have lc1 := c1.lt
  have dc3 := c3.c0
  have ec3 := c3.c1
  have lc3 := c3.lt
  clear hb5
  go_wp2_with fail
  clear dc1 ec1 lc1
  clear dc3 ec3 lc3
  refine calls_world (fun W => Glob W ∧ Below w.heap.size w W ∧ Cell2 W (w.heap.size) (.int .i64 m1) (.int .i64 e1) ∧ Cell2 W W3.heap.size (.int .i64 m) (.int .i64 f) ∧ Cell2 W W5.heap.size (.int .i64 m) (.int .i64 f)) ⟨hg.alloc _, up B (al1 _ _), c1.alloc _, c3.alloc _, Cell2.new _ _ _ _⟩ ?_
  clear hg B c1 c3
  rintro W ⟨hg, B, c1, c3, c4⟩
  have dc1 := c1.c0
  have ec1 := c1.c1
  have lc1 := c1.lt
  have dc3 := c3.c0
  have ec3 := c3.c1
  have lc3 := c3.lt
  have dc4 := c4.c0
  have ec4 := c4.c1
  have lc4 := c4.lt
  refine (num_Right m f hm.lo hm.hi _ hg).mono ?_
  rw [HR.out]
  rintro r W6 ⟨rfl, hb6⟩
  replace hg := hg.below hb6
  replace B := up B hb6
  clear dc1 ec1 lc1
  replace c1 := c1.below hb6
  clear dc3 ec3 lc3
  replace c3 := c3.below hb6
  clear dc4 ec4 lc4
  replace c4 := c4.below hb6
  have dc1 := c1.c0
  have ec1 := c1.c1
  have lc1 := c1.lt
  have dc3 := c3.c0
  have ec3 := c3.c1
  have lc3 := c3.lt
  have dc4 := c4.c0
  have ec4 := c4.c1
  have lc4 := c4.lt
  clear hb6
  go_wp2
  go_ret
  exact ⟨rfl, B⟩

set_option maxRecDepth 100000 in
theorem back_10 (m1 e1 : Int) (hm1 : I64 m1) (s : ByteArray) (hs : s.size ≤ 5000) (T : ByteArray) (hp : printRes (printN m1 e1) = .tuple #[.string T, .int .i64 0]) (hq : parseN T.data.toList = ((m1, e1), 0)) (hts : T.size ≤ 2305843009213693952) (c : Int) (hz : parseN s.data.toList = ((0, 0), c)) (hc : (c != 0) = true) (w : World) (hg : Glob w) :
    Calls Tryd.prog 8 #[.agg #[.int .i64 m1, .int .i64 e1], .string s] w fun r w' => r = .returned (.bool true) ∧ Below w.heap.size w w' := by
  have HP := Keep.mk hp
  clear hp
  have HZ := Keep.mk hz
  clear hz
  have HQ := Keep.mk hq
  clear hq
  go_enter Tryd.func8, Tryd.ntmps8
  go_wp2_with fail
  refine calls_world (fun W => Glob W ∧ Below w.heap.size w W ∧ Cell2 W (w.heap.size) (.int .i64 m1) (.int .i64 e1)) ⟨hg.below (al1 w _), al1 w _, (Cell2.newAt (by simp))⟩ ?_
  clear hg
  rintro W ⟨hg, B, c1⟩
  have dc1 := c1.c0
  have ec1 := c1.c1
  have lc1 := c1.lt
  refine (num_works _ hg).mono ?_
  rintro r W1 ⟨rfl, hb1⟩
  replace hg := hg.below hb1
  replace B := up B hb1
  clear dc1 ec1 lc1
  replace c1 := c1.below hb1
  have dc1 := c1.c0
  have ec1 := c1.c1
  have lc1 := c1.lt
  clear hb1
  go_wp2_with fail
  refine (num_print m1 e1 hm1 _ hg).mono ?_
  rw [HP.out]
  rintro r W2 ⟨rfl, hb2⟩
  replace hg := hg.below hb2
  replace B := up B hb2
  clear dc1 ec1 lc1
  replace c1 := c1.below hb2
  have dc1 := c1.c0
  have ec1 := c1.c1
  have lc1 := c1.lt
  clear hb2
  go_wp2_with fail
  refine (num_Parse T hts _ hg).mono ?_
  rw [HQ.out]
  simp only [numRes]
  rintro r W3 ⟨rfl, hb3⟩
  replace hg := hg.below hb3
  replace B := up B hb3
  clear dc1 ec1 lc1
  replace c1 := c1.below hb3
  have dc1 := c1.c0
  have ec1 := c1.c1
  have lc1 := c1.lt
  clear hb3
  go_wp2_with fail
  clear dc1 ec1 lc1
  refine calls_world (fun W => Glob W ∧ Below w.heap.size w W ∧ Cell2 W (w.heap.size) (.int .i64 m1) (.int .i64 e1) ∧ Cell2 W W3.heap.size (.int .i64 m1) (.int .i64 e1)) ⟨hg.alloc _, up B (al1 _ _), c1.alloc _, Cell2.new _ _ _ _⟩ ?_
  clear hg B c1
  rintro W ⟨hg, B, c1, c2⟩
  have dc1 := c1.c0
  have ec1 := c1.c1
  have lc1 := c1.lt
  have dc2 := c2.c0
  have ec2 := c2.c1
  have lc2 := c2.lt
  refine (num_Parse s (by omega) _ hg).mono ?_
  rw [HZ.out]
  simp only [numRes]
  rintro r W4 ⟨rfl, hb4⟩
  replace hg := hg.below hb4
  replace B := up B hb4
  clear dc1 ec1 lc1
  replace c1 := c1.below hb4
  clear dc2 ec2 lc2
  replace c2 := c2.below hb4
  have dc1 := c1.c0
  have ec1 := c1.c1
  have lc1 := c1.lt
  have dc2 := c2.c0
  have ec2 := c2.c1
  have lc2 := c2.lt
  clear hb4
  go_wp2
  go_ret
  exact ⟨rfl, up B (al1 _ _)⟩

set_option maxRecDepth 100000 in
theorem back_11 (m1 e1 : Int) (hm1 : I64 m1) (s : ByteArray) (hs : s.size ≤ 5000) (T : ByteArray) (hp : printRes (printN m1 e1) = .tuple #[.string T, .int .i64 0]) (hq : parseN T.data.toList = ((m1, e1), 0)) (hts : T.size ≤ 2305843009213693952) (m f : Int) (hz : parseN s.data.toList = ((m, f), 0)) (hm : I64 m) (hr : right m f = true) (U : ByteArray) (hp2 : printRes (printN m f) = .tuple #[.string U, .int .i64 0]) (hq2 : parseN U.data.toList = ((m, f), 0)) (hus : U.size ≤ 2305843009213693952) (w : World) (hg : Glob w) :
    Calls Tryd.prog 8 #[.agg #[.int .i64 m1, .int .i64 e1], .string s] w fun r w' => r = .returned (.bool true) ∧ Below w.heap.size w w' := by
  have HP := Keep.mk hp
  clear hp
  have HZ := Keep.mk hz
  clear hz
  have HQ := Keep.mk hq
  clear hq
  have HP2 := Keep.mk hp2
  clear hp2
  have HQ2 := Keep.mk hq2
  clear hq2
  have HR := Keep.mk hr
  clear hr
  go_enter Tryd.func8, Tryd.ntmps8
  go_wp2_with fail
  refine calls_world (fun W => Glob W ∧ Below w.heap.size w W ∧ Cell2 W (w.heap.size) (.int .i64 m1) (.int .i64 e1)) ⟨hg.below (al1 w _), al1 w _, (Cell2.newAt (by simp))⟩ ?_
  clear hg
  rintro W ⟨hg, B, c1⟩
  have dc1 := c1.c0
  have ec1 := c1.c1
  have lc1 := c1.lt
  refine (num_works _ hg).mono ?_
  rintro r W1 ⟨rfl, hb1⟩
  replace hg := hg.below hb1
  replace B := up B hb1
  clear dc1 ec1 lc1
  replace c1 := c1.below hb1
  have dc1 := c1.c0
  have ec1 := c1.c1
  have lc1 := c1.lt
  clear hb1
  go_wp2_with fail
  refine (num_print m1 e1 hm1 _ hg).mono ?_
  rw [HP.out]
  rintro r W2 ⟨rfl, hb2⟩
  replace hg := hg.below hb2
  replace B := up B hb2
  clear dc1 ec1 lc1
  replace c1 := c1.below hb2
  have dc1 := c1.c0
  have ec1 := c1.c1
  have lc1 := c1.lt
  clear hb2
  go_wp2_with fail
  refine (num_Parse T hts _ hg).mono ?_
  rw [HQ.out]
  simp only [numRes]
  rintro r W3 ⟨rfl, hb3⟩
  replace hg := hg.below hb3
  replace B := up B hb3
  clear dc1 ec1 lc1
  replace c1 := c1.below hb3
  have dc1 := c1.c0
  have ec1 := c1.c1
  have lc1 := c1.lt
  clear hb3
  go_wp2_with fail
  clear dc1 ec1 lc1
  refine calls_world (fun W => Glob W ∧ Below w.heap.size w W ∧ Cell2 W (w.heap.size) (.int .i64 m1) (.int .i64 e1) ∧ Cell2 W W3.heap.size (.int .i64 m1) (.int .i64 e1)) ⟨hg.alloc _, up B (al1 _ _), c1.alloc _, Cell2.new _ _ _ _⟩ ?_
  clear hg B c1
  rintro W ⟨hg, B, c1, c2⟩
  have dc1 := c1.c0
  have ec1 := c1.c1
  have lc1 := c1.lt
  have dc2 := c2.c0
  have ec2 := c2.c1
  have lc2 := c2.lt
  refine (num_Parse s (by omega) _ hg).mono ?_
  rw [HZ.out]
  simp only [numRes]
  rintro r W4 ⟨rfl, hb4⟩
  replace hg := hg.below hb4
  replace B := up B hb4
  clear dc1 ec1 lc1
  replace c1 := c1.below hb4
  clear dc2 ec2 lc2
  replace c2 := c2.below hb4
  have dc1 := c1.c0
  have ec1 := c1.c1
  have lc1 := c1.lt
  have dc2 := c2.c0
  have ec2 := c2.c1
  have lc2 := c2.lt
  clear hb4
  go_wp2_with fail
  clear dc1 ec1 lc1
  clear dc2 ec2 lc2
  refine calls_world (fun W => Glob W ∧ Below w.heap.size w W ∧ Cell2 W (w.heap.size) (.int .i64 m1) (.int .i64 e1) ∧ Cell2 W W3.heap.size (.int .i64 m1) (.int .i64 e1) ∧ Cell2 W W4.heap.size (.int .i64 m) (.int .i64 f)) ⟨hg.alloc _, up B (al1 _ _), c1.alloc _, c2.alloc _, Cell2.new _ _ _ _⟩ ?_
  clear hg B c1 c2
  rintro W ⟨hg, B, c1, c2, c3⟩
  have dc1 := c1.c0
  have ec1 := c1.c1
  have lc1 := c1.lt
  have dc2 := c2.c0
  have ec2 := c2.c1
  have lc2 := c2.lt
  have dc3 := c3.c0
  have ec3 := c3.c1
  have lc3 := c3.lt
  refine (num_print m f hm _ hg).mono ?_
  rw [HP2.out]
  rintro r W5 ⟨rfl, hb5⟩
  replace hg := hg.below hb5
  replace B := up B hb5
  clear dc1 ec1 lc1
  replace c1 := c1.below hb5
  clear dc2 ec2 lc2
  replace c2 := c2.below hb5
  clear dc3 ec3 lc3
  replace c3 := c3.below hb5
  have dc1 := c1.c0
  have ec1 := c1.c1
  have lc1 := c1.lt
  have dc2 := c2.c0
  have ec2 := c2.c1
  have lc2 := c2.lt
  have dc3 := c3.c0
  have ec3 := c3.c1
  have lc3 := c3.lt
  clear hb5
  go_wp2_with fail
  refine (num_Parse U hus _ hg).mono ?_
  rw [HQ2.out]
  simp only [numRes]
  rintro r W6 ⟨rfl, hb6⟩
  replace hg := hg.below hb6
  replace B := up B hb6
  clear dc1 ec1 lc1
  replace c1 := c1.below hb6
  clear dc2 ec2 lc2
  replace c2 := c2.below hb6
  clear dc3 ec3 lc3
  replace c3 := c3.below hb6
  have dc1 := c1.c0
  have ec1 := c1.c1
  have lc1 := c1.lt
  have dc2 := c2.c0
  have ec2 := c2.c1
  have lc2 := c2.lt
  have dc3 := c3.c0
  have ec3 := c3.c1
  have lc3 := c3.lt
  clear hb6
  go_wp2_with fail
  clear dc1 ec1 lc1
  clear dc2 ec2 lc2
  clear dc3 ec3 lc3
  refine calls_world (fun W => Glob W ∧ Below w.heap.size w W ∧ Cell2 W (w.heap.size) (.int .i64 m1) (.int .i64 e1) ∧ Cell2 W W3.heap.size (.int .i64 m1) (.int .i64 e1) ∧ Cell2 W W4.heap.size (.int .i64 m) (.int .i64 f) ∧ Cell2 W W6.heap.size (.int .i64 m) (.int .i64 f)) ⟨hg.alloc _, up B (al1 _ _), c1.alloc _, c2.alloc _, c3.alloc _, Cell2.new _ _ _ _⟩ ?_
  clear hg B c1 c2 c3
  rintro W ⟨hg, B, c1, c2, c3, c4⟩
  have dc1 := c1.c0
  have ec1 := c1.c1
  have lc1 := c1.lt
  have dc2 := c2.c0
  have ec2 := c2.c1
  have lc2 := c2.lt
  have dc3 := c3.c0
  have ec3 := c3.c1
  have lc3 := c3.lt
  have dc4 := c4.c0
  have ec4 := c4.c1
  have lc4 := c4.lt
  refine (num_Right m f hm.lo hm.hi _ hg).mono ?_
  rw [HR.out]
  rintro r W7 ⟨rfl, hb7⟩
  replace hg := hg.below hb7
  replace B := up B hb7
  clear dc1 ec1 lc1
  replace c1 := c1.below hb7
  clear dc2 ec2 lc2
  replace c2 := c2.below hb7
  clear dc3 ec3 lc3
  replace c3 := c3.below hb7
  clear dc4 ec4 lc4
  replace c4 := c4.below hb7
  have dc1 := c1.c0
  have ec1 := c1.c1
  have lc1 := c1.lt
  have dc2 := c2.c0
  have ec2 := c2.c1
  have lc2 := c2.lt
  have dc3 := c3.c0
  have ec3 := c3.c1
  have lc3 := c3.lt
  have dc4 := c4.c0
  have ec4 := c4.c1
  have lc4 := c4.lt
  clear hb7
  go_wp2
  go_ret
  exact ⟨rfl, B⟩

theorem law_back (m1 e1 : Int) (s : ByteArray) (hm1 : I64 m1) (_hs : s.size ≤ maxLen) (w : World) (hg : Glob w) :
    Calls Tryd.prog 8 #[.agg #[.int .i64 m1, .int .i64 e1], .string s] w fun r w' => r = .returned (.bool true) ∧ Below w.heap.size w w' := by
  by_cases hs : 5000 < s.size
  · exact back_long m1 e1 hm1 s hs w hg
  have hs : s.size ≤ 5000 := by omega
  obtain ⟨⟨⟨m, f⟩, c⟩, hz⟩ : ∃ p, parseN s.data.toList = p := ⟨_, rfl⟩
  cases hr : right m1 e1
  · have hp := text_not hr
    by_cases hc : c = 0
    · subst hc
      have r := parse_ok hz
      obtain ⟨U, a1, a2, a3⟩ := text_bytes r
      exact back_01 m1 e1 hm1 s hs hp m f hz (I64.right r) r U a1 a2 a3 w hg
    · have e := parse_wrong hz hc
      rw [e] at hz
      exact back_00 m1 e1 hm1 s hs hp c hz (by simpa using hc) w hg
  · obtain ⟨T, b1, b2, b3⟩ := text_bytes hr
    by_cases hc : c = 0
    · subst hc
      have r := parse_ok hz
      obtain ⟨U, a1, a2, a3⟩ := text_bytes r
      exact back_11 m1 e1 hm1 s hs T b1 b2 b3 m f hz (I64.right r) r U a1 a2 a3 w hg
    · have e := parse_wrong hz hc
      rw [e] at hz
      exact back_10 m1 e1 hm1 s hs T b1 b2 b3 c hz (by simpa using hc) w hg
end Go.Proofs.YtljemfajjeoecaaDoor
