/- The references' long: a number's digits. Conditions: the number is of int64. -/
import Derived.Test.YtljemfajjeoecaaDoorRefShort
import Derived.Test.YtljemfajjeoecaaDoorNumC
namespace Go.Proofs.YtljemfajjeoecaaDoor
open Go Go.RowKit Go.Proofs Th

/-- what the loop of long keeps: the box of the number being made, and its digits so far -/
structure Lng (w wr : World) (neg : Bool) (n : Nat) (e : Int) (k : Nat) (v : Value) (xs : List Nat) : Prop where
  x : Box wr (w.heap.size + 2) [.bool neg, v, .int .i64 e]
  r : Box wr (w.heap.size + 1) [.bool false, .slice none 0 0, .int .i64 0]
  own : OwnInts wr (w.heap.size + 3) v xs
  same : digs n = digs k ++ xs
  old : Below w.heap.size w wr
  len : xs.length ≤ 20

theorem digs_len (n : Nat) (h : n ≤ 9223372036854775808) : (digs n).length ≤ 19 := length_digs_le n 19 (by omega)
theorem long_step {n k : Nat} {xs : List Nat} (hk : k ≠ 0) (hn : n ≤ 9223372036854775808) (h : digs n = digs k ++ xs) : digs n = digs (k / 10) ++ (k % 10 :: xs) ∧ xs.length + 1 ≤ 19 := by
  have h1 : digs n = digs (k / 10) ++ (k % 10 :: xs) := by rw [h, digs_pos k hk]; simp
  have h2 := digs_len n hn
  rw [h1] at h2
  simp at h2
  exact ⟨h1, by omega⟩

set_option maxRecDepth 100000 in
theorem ref_long_pos (m e : Int) (h0 : 0 ≤ m) (h1 : m ≤ 9223372036854775807) (w : World) :
    Calls Tryd.prog 68 #[.agg #[.int .i64 m, .int .i64 e]] w fun r w' => ∃ A c, r = .returned (longV false A c (digs m.natAbs) e) ∧ IntsAt w' w'.heap.size A c (digs m.natAbs) ∧ Below w.heap.size w w' := by
  obtain ⟨n, rfl⟩ := Int.eq_ofNat_of_zero_le h0
  have hn : n ≤ 9223372036854775808 := by omega
  rw [Int.natAbs_natCast]
  have hnb : decide ((n : Int) < 0) = false := by simp
  go_enter Tryd.func68, Tryd.ntmps68
  go_wp2_with fail
  go_loopg [4, 5] n (fun gk m d wr => ∃ (v : Value) (xs : List Nat), m = .int .i64 gk ∧ gk ≤ 9223372036854775807 ∧ Keep (Lng w wr false n e gk v xs))
  case atStart =>
    refine ⟨.slice none 0 0, [], rfl, by omega, ⟨?_, ?_, OwnInts.nil _ _, by simp, al3 _ _ _ _, by simp⟩⟩
    · exact Box.new [.bool false, .slice none 0 0, .int .i64 e] _ (by simp)
    · refine Box.alloc ?_ _
      exact Box.new [.bool false, .slice none 0 0, .int .i64 0] _ (by simp)
  case round =>
    obtain ⟨v, xs, rfl, hgk, HL⟩ := hrel
    have L := HL.out
    have x1 := L.x.cell 1 _ rfl
    have f1 := L.x.froz 1
    have lt := L.x.lt
    by_cases hz : gk = 0
    · subst hz
      have x0 := L.x.cell 0 _ rfl
      have x2 := L.x.cell 2 _ rfl
      have r0 := L.r.cell 0 _ rfl
      have r1 := L.r.cell 1 _ rfl
      have r2 := L.r.cell 2 _ rfl
      have q0 := L.r.froz 0
      have q1 := L.r.froz 1
      have q2 := L.r.froz 2
      obtain ⟨A, c, rfl, hI⟩ := L.own.ints
      have hs := L.same
      rw [digs_zero, List.nil_append] at hs
      subst hs
      have HO := Keep.mk L.own
      have B := L.old
      clear L HL hI
      go_wp2
      refine bodyPost_ret (v := longV false A c (digs n) e) ?_ rfl ⟨A, c, rfl, ?_, st1 (st1 (st1 B _ _ _ (by omega)) _ _ _ (by omega)) _ _ _ (by omega)⟩
      · simp [longV, results, Tryd.results68, go_sem, r0, r1, r2]
      · exact (((HO.out.set (by omega) _).set (by omega) _).set (by omega) _).read
    · have hgb : ((gk : Int) != 0) = true := by simpa using hz
      have HO := Keep.mk L.own
      obtain ⟨A, c, rfl, hI⟩ := L.own.ints
      have HI := Keep.mk hI
      have hl := L.len
      have ⟨s1, s2⟩ := long_step hz hn L.same
      have HS := Keep.mk s1
      have hlt : 0 < gk := by omega
      have hB := L.old.size
      have HX := Keep.mk (L.x.alloc (.cells #[.int .i64 ((gk % 10 : Nat) : Int)] 3))
      have HR := Keep.mk (L.r.alloc (.cells #[.int .i64 ((gk % 10 : Nat) : Int)] 3))
      have HB := Keep.mk (up L.old (al1 wr (.cells #[.int .i64 ((gk % 10 : Nat) : Int)] 3)))
      clear L hI s1
      go_wp2_with (at_builtin; refine wpList_append_ints rfl (.tmp 23) (.tmp 25) rfl (w.heap.size + 3) _ [gk % 10] rfl (OwnInts.one _ rfl (by omega)) wr.heap.size A xs.length c xs rfl rfl (HI.out.below ((Below.refl _ _).alloc (Nat.le_refl _) _) (Nat.le_refl _)) (by simp; omega) (by simp; omega) ?_; intro v1 w1 hown1 hb1; obtain ⟨A1, c1, rfl, hI1⟩ := hown1.ints; have HO1 := Keep.mk hown1; have bx := HX.out.below hb1 (by omega); have br := HR.out.below hb1 (by omega); have x1' := bx.cell 1 _ rfl; have f1' := bx.froz 1; have lt' := bx.lt; have HX1 := Keep.mk bx; have HR1 := Keep.mk br; have HB1 := Keep.mk hb1; clear hown1 hI1 bx br hb1 HX HR)
      go_roundg (gk / 10)
      case rel => exact ⟨_, [gk % 10] ++ xs, by go_num, by omega, ⟨HX1.out.set (by simp) _, HR1.out.other (by omega) _, HO1.out.set (by omega) _, HS.out, st1 (HB.out.trans (HB1.out.mono (by omega))) _ _ _ (by omega), by simp; omega⟩⟩
      case measure => omega
set_option maxRecDepth 100000 in
theorem ref_long_neg (m e : Int) (h0 : m < 0) (h1 : -9223372036854775808 ≤ m) (w : World) :
    Calls Tryd.prog 68 #[.agg #[.int .i64 m, .int .i64 e]] w fun r w' => ∃ A c, r = .returned (longV true A c (digs m.natAbs) e) ∧ IntsAt w' w'.heap.size A c (digs m.natAbs) ∧ Below w.heap.size w w' := by
  obtain ⟨n, hm⟩ := Int.eq_ofNat_of_zero_le (show 0 ≤ -m by omega)
  obtain rfl : m = -(n : Int) := by omega
  have hn : n ≤ 9223372036854775808 := by omega
  rw [Int.natAbs_neg, Int.natAbs_natCast]
  clear hm
  have hnp : 0 < n := by omega
  have hnb : decide (-(n : Int) < 0) = true := decide_eq_true h0
  go_enter Tryd.func68, Tryd.ntmps68
  go_wp2_with fail
  go_loopg [4, 5] n (fun gk m d wr => ∃ (v : Value) (xs : List Nat), m = .int .i64 (-(gk : Int)) ∧ gk ≤ 9223372036854775808 ∧ Keep (Lng w wr true n e gk v xs))
  case atStart =>
    refine ⟨.slice none 0 0, [], rfl, by omega, ⟨?_, ?_, OwnInts.nil _ _, by simp, al3 _ _ _ _, by simp⟩⟩
    · exact Box.new [.bool true, .slice none 0 0, .int .i64 e] _ (by simp)
    · refine Box.alloc ?_ _
      exact Box.new [.bool false, .slice none 0 0, .int .i64 0] _ (by rw [World.size_alloc])
  case round =>
    obtain ⟨v, xs, rfl, hgk, HL⟩ := hrel
    have L := HL.out
    have x1 := L.x.cell 1 _ rfl
    have f1 := L.x.froz 1
    have lt := L.x.lt
    by_cases hz : gk = 0
    · subst hz
      have x0 := L.x.cell 0 _ rfl
      have x2 := L.x.cell 2 _ rfl
      have r0 := L.r.cell 0 _ rfl
      have r1 := L.r.cell 1 _ rfl
      have r2 := L.r.cell 2 _ rfl
      have q0 := L.r.froz 0
      have q1 := L.r.froz 1
      have q2 := L.r.froz 2
      obtain ⟨A, c, rfl, hI⟩ := L.own.ints
      have hs := L.same
      rw [digs_zero, List.nil_append] at hs
      subst hs
      have HO := Keep.mk L.own
      have B := L.old
      clear L HL hI
      go_wp2
      refine bodyPost_ret (v := longV true A c (digs n) e) ?_ rfl ⟨A, c, rfl, ?_, st1 (st1 (st1 B _ _ _ (by omega)) _ _ _ (by omega)) _ _ _ (by omega)⟩
      · simp [longV, results, Tryd.results68, go_sem, r0, r1, r2]
      · exact (((HO.out.set (by omega) _).set (by omega) _).set (by omega) _).read
    · have hgb : ((-(gk : Int)) != 0) = true := by rw [bne_iff_ne]; omega
      have ht : (-(gk : Int)).tmod 10 = -((gk % 10 : Nat) : Int) := by rw [Int.neg_tmod]; rfl
      have hq : (-(gk : Int)).tdiv 10 = -((gk / 10 : Nat) : Int) := by rw [Int.neg_tdiv]; rfl
      have hr9 : gk % 10 ≤ 9 := by omega
      have hqlt : gk / 10 < gk := by omega
      have HO := Keep.mk L.own
      obtain ⟨A, c, rfl, hI⟩ := L.own.ints
      have HI := Keep.mk hI
      have hl := L.len
      have ⟨s1, s2⟩ := long_step hz hn L.same
      have HS := Keep.mk s1
      have hB := L.old.size
      generalize gk % 10 = r at *
      generalize gk / 10 = q at *
      have HX := Keep.mk (L.x.alloc (.cells #[.int .i64 (r : Int)] 3))
      have HR := Keep.mk (L.r.alloc (.cells #[.int .i64 (r : Int)] 3))
      have HB := Keep.mk (up L.old (al1 wr (.cells #[.int .i64 (r : Int)] 3)))
      clear L HL hI s1 hz
      by_cases hr0 : r = 0
      · subst hr0
        go_wp2_with (at_builtin; refine wpList_append_ints rfl (.tmp 23) (.tmp 25) rfl (w.heap.size + 3) _ [0] rfl (OwnInts.one _ rfl (by omega)) wr.heap.size A xs.length c xs rfl rfl (HI.out.below ((Below.refl _ _).alloc (Nat.le_refl _) _) (Nat.le_refl _)) (by simp; omega) (by simp; omega) ?_; intro v1 w1 hown1 hb1; obtain ⟨A1, c1, rfl, hI1⟩ := hown1.ints; have HO1 := Keep.mk hown1; have bx := HX.out.below hb1 (by omega); have br := HR.out.below hb1 (by omega); have x1' := bx.cell 1 _ rfl; have f1' := bx.froz 1; have lt' := bx.lt; have HX1 := Keep.mk bx; have HR1 := Keep.mk br; have HB1 := Keep.mk hb1; clear hown1 hI1 bx br hb1 HX HR)
        go_roundg q
        case rel => exact ⟨_, [0] ++ xs, by go_num, by omega, ⟨HX1.out.set (by simp) _, HR1.out.other (by omega) _, HO1.out.set (by omega) _, HS.out, st1 (HB.out.trans (HB1.out.mono (by omega))) _ _ _ (by omega), by simp; omega⟩⟩
        case measure => omega
      · have hrp : 0 < r := by omega
        clear hr0
        go_wp2_with (at_builtin; refine wpList_append_ints rfl (.tmp 23) (.tmp 25) rfl (w.heap.size + 3) _ [r] rfl (OwnInts.one _ rfl (by omega)) wr.heap.size A xs.length c xs rfl rfl (HI.out.below ((Below.refl _ _).alloc (Nat.le_refl _) _) (Nat.le_refl _)) (by simp; omega) (by simp; omega) ?_; intro v1 w1 hown1 hb1; obtain ⟨A1, c1, rfl, hI1⟩ := hown1.ints; have HO1 := Keep.mk hown1; have bx := HX.out.below hb1 (by omega); have br := HR.out.below hb1 (by omega); have x1' := bx.cell 1 _ rfl; have f1' := bx.froz 1; have lt' := bx.lt; have HX1 := Keep.mk bx; have HR1 := Keep.mk br; have HB1 := Keep.mk hb1; clear hown1 hI1 bx br hb1 HX HR)
        go_roundg q
        case rel => exact ⟨_, [r] ++ xs, by go_num, by omega, ⟨HX1.out.set (by simp) _, HR1.out.other (by omega) _, HO1.out.set (by omega) _, HS.out, st1 (HB.out.trans (HB1.out.mono (by omega))) _ _ _ (by omega), by simp; omega⟩⟩
        case measure => omega

theorem ref_long (m e : Int) (hm : I64 m) (w : World) :
    Calls Tryd.prog 68 #[.agg #[.int .i64 m, .int .i64 e]] w fun r w' => ∃ A c, r = .returned (longV (decide (m < 0)) A c (digs m.natAbs) e) ∧ IntsAt w' w'.heap.size A c (digs m.natAbs) ∧ Below w.heap.size w w' := by
  by_cases h : m < 0
  · rw [decide_eq_true h]; exact ref_long_neg m e h hm.lo w
  · rw [decide_eq_false h]; exact ref_long_pos m e (by omega) hm.hi w
end Go.Proofs.YtljemfajjeoecaaDoor
