/- Lemmas and contracts for the laws ReadParses, ReadBytes, part 35 of 50: Ref6A. Conditions: those that each lemma names. -/
import Derived.Test.YtbngjlkmpdccjaaGreatDoorPack10
import Derived.Test.YtbngjlkmpdccjaaGreatDoorPack32
import Derived.Test.YtbngjlkmpdccjaaGreatDoorPack29
import Derived.Test.YtbngjlkmpdccjaaGreatDoorPack12
import Derived.Outline
namespace Go.Proofs.YtbngjlkmpdccjaaGreatDoor
open Go Go.RowKit Go.Proofs Th
attribute [local go_sem] Above.cell
theorem ref6_blank (c : UInt8) (w : World) : Calls Tryz.prog 22 #[.int .u8 c.toNat] w fun r w' => r = .returned (.bool (blankC c)) ∧ w' = w := by
  have hcl := c.toNat_lt
  have HB := Keep.mk (show blankC c = (decide (c.toNat = 32) || decide (c.toNat = 9) || decide (c.toNat = 10) || decide (c.toNat = 13)) from rfl)
  generalize c.toNat = n at *
  generalize blankC c = b at *
  have hcs : (n = 32 ∨ n = 9 ∨ n = 10 ∨ n = 13) ∨ (((n : Int) == 32) = false ∧ ((n : Int) == 9) = false ∧ ((n : Int) == 10) = false ∧ ((n : Int) == 13) = false ∧ n ≠ 32 ∧ n ≠ 9 ∧ n ≠ 10 ∧ n ≠ 13) := by
    simp only [beq_eq_false_iff_ne]
    omega
  rcases hcs with (rfl | rfl | rfl | rfl) | ⟨b1, b2, b3, b4, n1, n2, n3, n4⟩
  case inr =>
    have HE := Keep.mk (show b = false by rw [HB.out, decide_eq_false n1, decide_eq_false n2, decide_eq_false n3, decide_eq_false n4]; rfl)
    clear HB n1 n2 n3 n4
    go_enter Tryz.func22, Tryz.ntmps22
    go_wp2
    go_ret
    exact ⟨by rw [HE.out]; rfl, rfl⟩
  all_goals
    have HE := Keep.mk (show b = true by rw [HB.out]; rfl)
    clear HB
    go_enter Tryz.func22, Tryz.ntmps22
    go_wp2
    go_ret
    exact ⟨by rw [HE.out]; rfl, rfl⟩
theorem ref6_sign (c : UInt8) (w : World) : Calls Tryz.prog 37 #[.int .u8 c.toNat] w fun r w' => r = .returned (.bool (signC c)) ∧ w' = w := by
  have hcl := c.toNat_lt
  have HB := Keep.mk (show signC c = (decide (c.toNat = 123) || decide (c.toNat = 125) || decide (c.toNat = 91) || decide (c.toNat = 93) || decide (c.toNat = 58) || decide (c.toNat = 44)) from rfl)
  generalize c.toNat = n at *
  generalize signC c = b at *
  have hcs : (n = 123 ∨ n = 125 ∨ n = 91 ∨ n = 93 ∨ n = 58 ∨ n = 44) ∨ (((n : Int) == 123) = false ∧ ((n : Int) == 125) = false ∧ ((n : Int) == 91) = false ∧ ((n : Int) == 93) = false ∧ ((n : Int) == 58) = false ∧ ((n : Int) == 44) = false ∧ n ≠ 123 ∧ n ≠ 125 ∧ n ≠ 91 ∧ n ≠ 93 ∧ n ≠ 58 ∧ n ≠ 44) := by
    simp only [beq_eq_false_iff_ne]
    omega
  rcases hcs with (rfl | rfl | rfl | rfl | rfl | rfl) | ⟨b1, b2, b3, b4, b5, b6, n1, n2, n3, n4, n5, n6⟩
  case inr =>
    have HE := Keep.mk (show b = false by rw [HB.out, decide_eq_false n1, decide_eq_false n2, decide_eq_false n3, decide_eq_false n4, decide_eq_false n5, decide_eq_false n6]; rfl)
    clear HB n1 n2 n3 n4 n5 n6
    go_enter Tryz.func37, Tryz.ntmps37
    go_wp2
    go_ret
    exact ⟨by rw [HE.out]; rfl, rfl⟩
  all_goals
    have HE := Keep.mk (show b = true by rw [HB.out]; rfl)
    clear HB
    go_enter Tryz.func37, Tryz.ntmps37
    go_wp2
    go_ret
    exact ⟨by rw [HE.out]; rfl, rfl⟩
theorem runp_more {p : UInt8 → Bool} {s : ByteArray} {a j : Nat} (hj : j < s.size) (h1 : ∀ i (h : i < s.data.toList.length), a ≤ i → i < j → p s.data.toList[i] = true) (h2 : p s[j] = true) : ∀ i (h : i < s.data.toList.length), a ≤ i → i < j + 1 → p s.data.toList[i] = true := by
  intro i h ha hi
  by_cases hij : i < j
  · exact h1 i h ha hij
  · obtain rfl : i = j := by omega
    exact h2
theorem runp_end {p : UInt8 → Bool} {s : ByteArray} {a j : Nat} (haj : a ≤ j) (hj : j ≤ s.size) (h1 : ∀ i (h : i < s.data.toList.length), a ≤ i → i < j → p s.data.toList[i] = true) (h2 : j = s.size ∨ ∃ h : j < s.size, p s[j] = false) : a + runB p (s.data.toList.drop a) = j := by
  have hl := size_listU s
  have : runB p (s.data.toList.drop a) = j - a := by
    refine runB_stop _ _ _ (by rw [List.length_drop]; omega) (fun i h hi => ?_) ?_
    · rw [List.getElem_drop]
      exact h1 (a + i) (by rw [List.length_drop] at h; omega) (by omega) (by omega)
    · rcases h2 with h2 | ⟨h, h2⟩
      · exact Or.inl (by rw [List.length_drop]; omega)
      · refine Or.inr ⟨by rw [List.length_drop]; omega, ?_⟩
        rw [List.getElem_drop]
        have e : a + (j - a) = j := by omega
        simp only [e]
        exact h2
  omega
set_option maxRecDepth 100000 in
theorem ref6_run_word (s : ByteArray) (hs : s.size ≤ 1000000000) (a : Nat) (ha : a ≤ s.size) (n : Nat) (hn : a + runB letterC (s.data.toList.drop a) = n) (w : World) : Calls Tryz.prog 39 #[.string s, .int .i64 a, .bool true] w fun r w' => r = .returned (.int .i64 n) ∧ w' = w := by
  replace hn := Keep.mk hn
  go_enter Tryz.func39, Tryz.ntmps39
  go_wp2_with fail
  go_loopg [1] (s.size - a) (fun gk i wr => ∃ j : Nat, j + gk = s.size ∧ a ≤ j ∧ i = .int .i64 j ∧ Keep (∀ i (h : i < s.data.toList.length), a ≤ i → i < j → letterC s.data.toList[i] = true) ∧ w = wr)
  case atStart => exact ⟨a, by omega, by omega, rfl, ⟨fun _ _ h h2 => absurd h (by omega)⟩, rfl⟩
  case round =>
    obtain ⟨j, hj, haj, rfl, HL, rfl⟩ := hrel
    by_cases hlt : j < s.size
    · have hgk : gk ≠ 0 := by omega
      have hcl := s[j].toNat_lt
      by_cases k1 : 97 ≤ s[j].toNat ∧ s[j].toNat ≤ 122
      · have HN := Keep.mk (runp_more (p := letterC) hlt HL.out (by unfold letterC; exact decide_eq_true k1))
        obtain ⟨k2, k3⟩ := k1
        clear HL
        go_wp2
        go_roundg (gk - 1)
        case rel => exact ⟨j + 1, by omega, by omega, by go_num, HN, rfl⟩
        case measure => omega
      · have HE := Keep.mk ((runp_end (p := letterC) haj (by omega) HL.out (Or.inr ⟨hlt, by unfold letterC; exact decide_eq_false k1⟩)).symm.trans hn.out)
        have hcs : s[j].toNat < 97 ∨ (97 ≤ s[j].toNat ∧ 122 < s[j].toNat) := by omega
        clear HL k1
        rcases hcs with k2 | ⟨k2, k3⟩
        all_goals
          go_wp2
          go_ret
          exact ⟨by rw [← HE.out]; rfl, rfl⟩
    · have HE := Keep.mk ((runp_end (p := letterC) haj (by omega) HL.out (Or.inl (by omega))).symm.trans hn.out)
      clear HL
      go_wp2
      go_ret
      exact ⟨by rw [← HE.out]; rfl, rfl⟩
theorem num_cases (n : Nat) : ((48 ≤ n ∧ n ≤ 57) ∨ n = 43 ∨ n = 45 ∨ n = 46 ∨ n = 101 ∨ n = 69) ∨ ((n < 48 ∨ (48 ≤ n ∧ 57 < n)) ∧ n ≠ 43 ∧ n ≠ 45 ∧ n ≠ 46 ∧ n ≠ 101 ∧ n ≠ 69) := by omega
set_option maxRecDepth 100000 in
theorem ref6_run_num (s : ByteArray) (hs : s.size ≤ 1000000000) (a : Nat) (ha : a ≤ s.size) (n : Nat) (hn : a + runB numC (s.data.toList.drop a) = n) (w : World) : Calls Tryz.prog 39 #[.string s, .int .i64 a, .bool false] w fun r w' => r = .returned (.int .i64 n) ∧ w' = w := by
  replace hn := Keep.mk hn
  go_enter Tryz.func39, Tryz.ntmps39
  go_wp2_with fail
  go_loopg [1] (s.size - a) (fun gk i wr => ∃ j : Nat, j + gk = s.size ∧ a ≤ j ∧ i = .int .i64 j ∧ Keep (∀ i (h : i < s.data.toList.length), a ≤ i → i < j → numC s.data.toList[i] = true) ∧ w = wr)
  case atStart => exact ⟨a, by omega, by omega, rfl, ⟨fun _ _ h h2 => absurd h (by omega)⟩, rfl⟩
  case round =>
    obtain ⟨j, hj, haj, rfl, HL, rfl⟩ := hrel
    by_cases hlt : j < s.size
    · have hgk : gk ≠ 0 := by omega
      have hcl := s[j].toNat_lt
      rcases num_cases s[j].toNat with k | ⟨k, k1, k2, k3, k4, k5⟩
      · have HN := Keep.mk (runp_more (p := numC) hlt HL.out (by unfold numC; simp; omega))
        clear HL
        rcases k with ⟨k1, k2⟩ | k | k | k | k | k
        all_goals
          go_wp2
          go_roundg (gk - 1)
          case rel => exact ⟨j + 1, by omega, by omega, by go_num, HN, rfl⟩
          case measure => omega
      · have HE := Keep.mk ((runp_end (p := numC) haj (by omega) HL.out (Or.inr ⟨hlt, by unfold numC; simp; omega⟩)).symm.trans hn.out)
        have b1 : ((s[j].toNat : Int) != 43) = true := by simp; omega
        have b2 : ((s[j].toNat : Int) != 45) = true := by simp; omega
        have b3 : ((s[j].toNat : Int) != 46) = true := by simp; omega
        have b4 : ((s[j].toNat : Int) != 101) = true := by simp; omega
        have b5 : ((s[j].toNat : Int) != 69) = true := by simp; omega
        clear HL k1 k2 k3 k4 k5
        rcases k with k | ⟨k, k6⟩
        all_goals
          go_wp2
          go_ret
          exact ⟨by rw [← HE.out]; rfl, rfl⟩
    · have HE := Keep.mk ((runp_end (p := numC) haj (by omega) HL.out (Or.inl (by omega))).symm.trans hn.out)
      clear HL
      go_wp2
      go_ret
      exact ⟨by rw [← HE.out]; rfl, rfl⟩
def wdB : Nat → ByteArray
  | 0 => ⟨#[110, 117, 108, 108]⟩
  | 1 => ⟨#[102, 97, 108, 115, 101]⟩
  | _ => ⟨#[116, 114, 117, 101]⟩
def wst (l : List UInt8) : Nat → Int × Int
  | 0 => (0, 60)
  | k + 1 => if l = (wdB k).data.toList then (k, 0) else wst l k
theorem wst_word (l : List UInt8) : wst (l.take (runB letterC l)) 3 = ((wordV l).1, (wordV l).2.2) := by
  unfold wordV
  generalize l.take (runB letterC l) = t
  simp only [wst]
  show (if t = [116, 114, 117, 101] then ((2 : Int), (0 : Int)) else if t = [102, 97, 108, 115, 101] then (1, 0) else if t = [110, 117, 108, 108] then (0, 0) else (0, 60)) = _
  by_cases h1 : t = [110, 117, 108, 108]
  · subst h1; rfl
  · rw [if_neg h1, if_neg h1]
    by_cases h2 : t = [102, 97, 108, 115, 101]
    · subst h2; rfl
    · rw [if_neg h2, if_neg h2]
      by_cases h3 : t = [116, 114, 117, 101]
      · rw [if_pos h3, if_pos h3]
      · rw [if_neg h3, if_neg h3]
def tok9 (t : Tk) : List Value := [.int .u8 t.sign, .int .i64 t.k, .int .i64 t.m, .int .i64 t.x, .string t.s, .slice none 0 0, .slice none 0 0, .int .i64 t.at_, .int .i64 t.e]
def zero9 : List Value := [.int .u8 0, .int .i64 0, .int .i64 0, .int .i64 0, .string ⟨#[]⟩, .slice none 0 0, .slice none 0 0, .int .i64 0, .int .i64 0]
set_option maxRecDepth 100000 in
set_option maxHeartbeats 4000000 in
theorem ref6_one (s : ByteArray) (hs : s.size ≤ 100000) (a : Nat) (ha : a < s.size) (w : World) : Calls Tryz.prog 23 #[.string s, .int .i64 a] w fun r w' =>
    ∃ n : Nat, r = .returned (.tuple #[.agg (tok9 (oneT (s.data.toList.drop a) a)).toArray, .int .i64 n]) ∧ ((oneT (s.data.toList.drop a) a).e = 0 → n = (oneT (s.data.toList.drop a) a).to_) ∧ Below w.heap.size w w' := by
  have hcl := s[a].toNat_lt
  have hcons : s.data.toList.drop a = s[a] :: s.data.toList.drop (a + 1) := List.drop_eq_getElem_cons (l := s.data.toList) (i := a) (by rw [size_listU]; exact ha)
  have HCO := Keep.mk hcons
  have HO := Keep.mk (show oneT (s.data.toList.drop a) a = oneT (s[a] :: s.data.toList.drop (a + 1)) a by rw [hcons])
  clear hcons
  go_enter Tryz.func23, Tryz.ntmps23
  go_upto_region 2 with fail
  refine wp_world (fun W => Box W (w.heap.size + 1) [.int .u8 0, .int .i64 0, .int .i64 0, .int .i64 0, .string ⟨#[]⟩, .slice none 0 0, .slice none 0 0, .int .i64 a, .int .i64 0] ∧ Box W w.heap.size zero9 ∧ Below w.heap.size w W)
    ⟨Box.new [.int .u8 0, .int .i64 0, .int .i64 0, .int .i64 0, .string ⟨#[]⟩, .slice none 0 0, .slice none 0 0, .int .i64 a, .int .i64 0] _ (by simp), (Box.new zero9 _ rfl).alloc _, al2 _ _ _⟩ ?_
  rintro W1 ⟨HY, HX, HB⟩
  replace HX := Keep.mk HX
  replace HY := Keep.mk HY
  replace HB := Keep.mk HB
  have hx1 : w.heap.size + 1 ≠ w.heap.size := by omega
  have HC := Keep.mk (fun w => ref6_sign s[a] w)
  have yl := HY.out.lt
  have xl := HX.out.lt
  cases k0 : signC s[a]
  case true =>
    have HE := Keep.mk (show oneT (s.data.toList.drop a) a = ⟨s[a].toNat, 0, 0, 0, ⟨#[]⟩, a, a + 1, 0⟩ by rw [HO.out]; simp only [oneT]; rw [if_pos k0])
    rw [k0] at HC
    clear HO k0 HCO
    go_wp2_with fail
    refine (HC.out _).mono ?_
    rintro r w1 ⟨rfl, rfl⟩
    have y0 := HY.out.cell 0 _ rfl
    have f0 := HY.out.froz 0
    have y1 := HY.out.cell 1 _ rfl
    have f1 := HY.out.froz 1
    have y2 := HY.out.cell 2 _ rfl
    have f2 := HY.out.froz 2
    have y3 := HY.out.cell 3 _ rfl
    have f3 := HY.out.froz 3
    have y4 := HY.out.cell 4 _ rfl
    have f4 := HY.out.froz 4
    have y5 := HY.out.cell 5 _ rfl
    have f5 := HY.out.froz 5
    have y6 := HY.out.cell 6 _ rfl
    have f6 := HY.out.froz 6
    have y7 := HY.out.cell 7 _ rfl
    have f7 := HY.out.froz 7
    have y8 := HY.out.cell 8 _ rfl
    have f8 := HY.out.froz 8
    have x0 := HX.out.cell 0 _ rfl
    have z0 := HX.out.froz 0
    have x1 := HX.out.cell 1 _ rfl
    have z1 := HX.out.froz 1
    have x2 := HX.out.cell 2 _ rfl
    have z2 := HX.out.froz 2
    have x3 := HX.out.cell 3 _ rfl
    have z3 := HX.out.froz 3
    have x4 := HX.out.cell 4 _ rfl
    have z4 := HX.out.froz 4
    have x5 := HX.out.cell 5 _ rfl
    have z5 := HX.out.froz 5
    have x6 := HX.out.cell 6 _ rfl
    have z6 := HX.out.froz 6
    have x7 := HX.out.cell 7 _ rfl
    have z7 := HX.out.froz 7
    have x8 := HX.out.cell 8 _ rfl
    have z8 := HX.out.froz 8
    have yl2 := HY.out.lt
    have xl2 := HX.out.lt
    go_wp2
    refine bodyPost_ret (v := .tuple #[.agg (tok9 ⟨s[a].toNat, 0, 0, 0, ⟨#[]⟩, a, a + 1, 0⟩).toArray, .int .i64 ((a + 1 : Nat) : Int)]) ?_ rfl ⟨a + 1, by rw [HE.out], fun _ => by rw [HE.out], ?_⟩
    · simp [tok9, results, Tryz.results23, go_sem, x0, x1, x2, x3, x4, x5, x6, x7, x8]
    · repeat (refine st1 ?_ _ _ _ (by omega))
      exact HB.out
  case false =>
  have n0 : ¬ signC s[a] = true := by rw [k0]; simp
  rw [k0] at HC
  clear k0
  by_cases k34 : s[a].toNat = 34
  · have HQR := Keep.mk (fun (w : World) => ref2_Read (s.extract a s.size) (by simp; omega) w)
    rw [bx_to, HCO.out] at HQR
    have hok : (readQ (s[a] :: s.data.toList.drop (a + 1))).2.1 ≤ s.size := by
      have := readQ_len (s.data.toList.drop a)
      rw [List.length_drop, size_listU, HCO.out] at this
      omega
    have HE := Keep.mk (show oneT (s.data.toList.drop a) a = ⟨0, 4, 0, 0, ⟨(readQ (s[a] :: s.data.toList.drop (a + 1))).1.toArray⟩, a, a + (readQ (s[a] :: s.data.toList.drop (a + 1))).2.1, (readQ (s[a] :: s.data.toList.drop (a + 1))).2.2⟩ by
      rw [HO.out]; simp only [oneT]; rw [if_neg n0, if_pos k34])
    have b34 : ((s[a].toNat : Int) == 34) = true := by simp [k34]
    clear HO n0 HCO k34
    generalize readQ (s[a] :: s.data.toList.drop (a + 1)) = q at *
    obtain ⟨tx, n, e⟩ := q
    simp only at hok
    go_wp2_with fail
    refine (HC.out _).mono ?_
    rintro r w1 ⟨rfl, rfl⟩
    go_wp2_with fail
    refine (HQR.out _).mono ?_
    rintro r w2 ⟨tb, rfl, htb, hb2⟩
    obtain rfl : tb = ⟨tx.toArray⟩ := ba_inj (by rw [htb])
    have HY2 := Keep.mk (HY.out.below hb2 HY.out.lt)
    have HX2 := Keep.mk (HX.out.below hb2 HX.out.lt)
    have HB2 := Keep.mk (up HB.out hb2)
    clear htb hb2 HY HX HB
    have y0 := HY2.out.cell 0 _ rfl
    have f0 := HY2.out.froz 0
    have y1 := HY2.out.cell 1 _ rfl
    have f1 := HY2.out.froz 1
    have y2 := HY2.out.cell 2 _ rfl
    have f2 := HY2.out.froz 2
    have y3 := HY2.out.cell 3 _ rfl
    have f3 := HY2.out.froz 3
    have y4 := HY2.out.cell 4 _ rfl
    have f4 := HY2.out.froz 4
    have y5 := HY2.out.cell 5 _ rfl
    have f5 := HY2.out.froz 5
    have y6 := HY2.out.cell 6 _ rfl
    have f6 := HY2.out.froz 6
    have y7 := HY2.out.cell 7 _ rfl
    have f7 := HY2.out.froz 7
    have y8 := HY2.out.cell 8 _ rfl
    have f8 := HY2.out.froz 8
    have x0 := HX2.out.cell 0 _ rfl
    have z0 := HX2.out.froz 0
    have x1 := HX2.out.cell 1 _ rfl
    have z1 := HX2.out.froz 1
    have x2 := HX2.out.cell 2 _ rfl
    have z2 := HX2.out.froz 2
    have x3 := HX2.out.cell 3 _ rfl
    have z3 := HX2.out.froz 3
    have x4 := HX2.out.cell 4 _ rfl
    have z4 := HX2.out.froz 4
    have x5 := HX2.out.cell 5 _ rfl
    have z5 := HX2.out.froz 5
    have x6 := HX2.out.cell 6 _ rfl
    have z6 := HX2.out.froz 6
    have x7 := HX2.out.cell 7 _ rfl
    have z7 := HX2.out.froz 7
    have x8 := HX2.out.cell 8 _ rfl
    have z8 := HX2.out.froz 8
    have yl2 := HY2.out.lt
    have xl2 := HX2.out.lt
    go_wp2
    refine bodyPost_ret (v := .tuple #[.agg (tok9 ⟨0, 4, 0, 0, ⟨tx.toArray⟩, a, a + n, e⟩).toArray, .int .i64 ((a + n : Nat) : Int)]) ?_ rfl ⟨a + n, by rw [HE.out], fun _ => by rw [HE.out], ?_⟩
    · simp [tok9, results, Tryz.results23, go_sem, x0, x1, x2, x3, x4, x5, x6, x7, x8]
    · repeat (refine st1 ?_ _ _ _ (by omega))
      exact HB2.out
  have b34 : ((s[a].toNat : Int) == 34) = false := by simp; omega
  by_cases k97 : 97 ≤ s[a].toNat ∧ s[a].toNat ≤ 122
  · have kl : letterC s[a] = true := by unfold letterC; exact decide_eq_true k97
    obtain ⟨n, hn⟩ : ∃ n, a + runB letterC (s.data.toList.drop a) = n := ⟨_, rfl⟩
    have HRW := Keep.mk (fun w => ref6_run_word s (by omega) a (by omega) n hn w)
    have hnle : n ≤ s.size := by
      have := runB_le letterC (s.data.toList.drop a)
      rw [List.length_drop, size_listU] at this
      omega
    have han : a ≤ n := by omega
    have HTL := Keep.mk (show (s.extract a n).data.toList = (s[a] :: s.data.toList.drop (a + 1)).take (runB letterC (s[a] :: s.data.toList.drop (a + 1))) by
      rw [← HCO.out, Lib.extract_data, show n - a = runB letterC (s.data.toList.drop a) by omega])
    have HWV := Keep.mk (wst_word (s[a] :: s.data.toList.drop (a + 1)))
    rw [← HTL.out] at HWV
    have HE := Keep.mk (show oneT (s.data.toList.drop a) a = ⟨0, (wordV (s[a] :: s.data.toList.drop (a + 1))).1, 0, 0, ⟨#[]⟩, a, a + (wordV (s[a] :: s.data.toList.drop (a + 1))).2.1, (wordV (s[a] :: s.data.toList.drop (a + 1))).2.2⟩ by
      rw [HO.out]; simp only [oneT]; rw [if_neg n0, if_neg k34, if_pos kl])
    have HEN := Keep.mk (show (wordV (s[a] :: s.data.toList.drop (a + 1))).2.2 = 0 → n = a + (wordV (s[a] :: s.data.toList.drop (a + 1))).2.1 from fun h => by
      have h2 := (Th.wordV_ok (s[a] :: s.data.toList.drop (a + 1)) h).1
      rw [h2, ← HCO.out]; exact hn.symm)
    obtain ⟨k1, k2⟩ := k97
    have hai : (a : Int) ≤ (n : Int) := by omega
    have hni : (n : Int) ≤ (s.size : Int) := by omega
    clear HO n0 HCO kl k34 hn HTL
    generalize wordV (s[a] :: s.data.toList.drop (a + 1)) = q at *
    obtain ⟨kk, nn, e⟩ := q
    simp only at HWV HE HEN
    go_wp2_with fail
    refine (HC.out _).mono ?_
    rintro r w1 ⟨rfl, rfl⟩
    go_wp2_with fail
    refine (HRW.out _).mono ?_
    rintro r w2 ⟨rfl, rfl⟩
    go_upto_region 14 with fail
    have hw2 := HB.out.size
    refine wp_world (fun W => Box W (w.heap.size + 1) [.int .u8 0, .int .i64 0, .int .i64 0, .int .i64 0, .string ⟨#[]⟩, .slice none 0 0, .slice none 0 0, .int .i64 a, .int .i64 0] ∧ Box W w.heap.size zero9 ∧ Box W w2.heap.size [.string (wdB 0), .string (wdB 1), .string (wdB 2)] ∧ Below w.heap.size w W) ?_ ?_
    · exact ⟨HY.out.alloc _, HX.out.alloc _, Box.new [.string (wdB 0), .string (wdB 1), .string (wdB 2)] _ rfl, up HB.out (al1 _ _)⟩
    generalize hgg : w2.heap.size = g at *
    have hg1 : w.heap.size + 1 ≠ g := by have := HY.out.lt; omega
    have hg0 : w.heap.size ≠ g := by have := HX.out.lt; omega
    clear HX HY HB hgg hw2
    rintro W2 ⟨HY, HX, HW, HB⟩
    replace HX := Keep.mk HX
    replace HY := Keep.mk HY
    replace HW := Keep.mk HW
    replace HB := Keep.mk HB
    have yl := HY.out.lt
    have y8 := HY.out.cell 8 _ rfl
    have f8 := HY.out.froz 8
    go_upto_block 0 with fail
    refine wp_world (fun W => Box W (w.heap.size + 1) [.int .u8 0, .int .i64 0, .int .i64 0, .int .i64 0, .string ⟨#[]⟩, .slice none 0 0, .slice none 0 0, .int .i64 a, .int .i64 60] ∧ Box W w.heap.size zero9 ∧ Box W g [.string (wdB 0), .string (wdB 1), .string (wdB 2)] ∧ Below w.heap.size w W)
      ⟨HY.out.set (i := 8) (by simp) _, HX.out.other hx1 _, HW.out.other hg1 _, st1 HB.out _ _ _ (by omega)⟩ ?_
    clear HX HY HW HB y8 f8 yl
    rintro W3 ⟨HY, HX, HW, HB⟩
    replace HX := Keep.mk HX
    replace HY := Keep.mk HY
    replace HW := Keep.mk HW
    replace HB := Keep.mk HB
    go_cut [13] (fun _ wx => Keep (Box wx (w.heap.size + 1) [.int .u8 0, .int .i64 kk, .int .i64 0, .int .i64 0, .string ⟨#[]⟩, .slice none 0 0, .slice none 0 0, .int .i64 a, .int .i64 e]) ∧ Keep (Box wx w.heap.size zero9) ∧ Keep (Below w.heap.size w wx))
    case first =>
      go_wp2_with fail
      go_loopg [13] 3 (fun gk i wr => ∃ (k : Nat) (kd er : Int), i = .int .i64 k ∧ k + gk = 3 ∧ Keep (wst (s.extract a n).data.toList k = (kd, er)) ∧ Keep (Box wr (w.heap.size + 1) [.int .u8 0, .int .i64 kd, .int .i64 0, .int .i64 0, .string ⟨#[]⟩, .slice none 0 0, .slice none 0 0, .int .i64 a, .int .i64 er]) ∧ Keep (Box wr w.heap.size zero9) ∧ Keep (Box wr g [.string (wdB 0), .string (wdB 1), .string (wdB 2)]) ∧ Keep (Below w.heap.size w wr))
      case atStart => exact ⟨0, 0, 60, rfl, by omega, ⟨rfl⟩, HY, HX, HW, HB⟩
      case round =>
        clear HY HX HW HB
        obtain ⟨k, kd, er, rfl, hk, HS, HY, HX, HW, HB⟩ := hrel
        by_cases hk3 : k < 3
        · have hgk : gk ≠ 0 := by omega
          have hcw : wr.cell? ⟨g, k, none⟩ = some (.string (wdB k)) := by
            have : k = 0 ∨ k = 1 ∨ k = 2 := by omega
            rcases this with rfl | rfl | rfl
            · exact HW.out.cell 0 _ rfl
            · exact HW.out.cell 1 _ rfl
            · exact HW.out.cell 2 _ rfl
          have hlw := HW.out.lt
          have HT := Keep.mk (show (s.extract a n).data.toList = (s.extract a n).toList from (ByteArray.toList_eq _).symm)
          by_cases hq : (s.extract a n).toList = (wdB k).toList
          · have hqb : ((s.extract a n).toList == (wdB k).toList) = true := by rw [beq_iff_eq]; exact hq
            go_upto_region 18 with fail
            refine wp_region_above (by kernel_rfl) (by kernel_rfl) ?_
            repeat (go_big_quiet_step (fail))
            refine wpQuiet_nil ?_
            rintro _ ⟨⟨W4, hb4⟩, rfl⟩
            have HY1 := Keep.mk (HY.out.below hb4 HY.out.lt)
            have HX1 := Keep.mk (HX.out.below hb4 HX.out.lt)
            have HW1 := Keep.mk (HW.out.below hb4 HW.out.lt)
            have HB1 := Keep.mk (up HB.out hb4)
            clear hcw hlw
            have HS1 := Keep.mk (show wst (s.extract a n).data.toList (k + 1) = ((k : Int), (0 : Int)) by
              simp only [wst]; rw [if_pos (by rw [HT.out, hq, ByteArray.toList_eq])])
            have y1 := HY1.out.cell 1 _ rfl
            have f1 := HY1.out.froz 1
            have y8 := HY1.out.cell 8 _ rfl
            have f8 := HY1.out.froz 8
            have yl := HY1.out.lt
            clear HS HY HX HW HB hq
            go_wp2
            go_roundg (gk - 1)
            case rel => exact ⟨k + 1, k, 0, by go_num, by omega, HS1, ⟨(HY1.out.set (i := 1) (by simp) _).set (i := 8) (by simp) _⟩, ⟨(HX1.out.other hx1 _).other hx1 _⟩, ⟨(HW1.out.other hg1 _).other hg1 _⟩, ⟨st1 (st1 HB1.out _ _ _ (by omega)) _ _ _ (by omega)⟩⟩
            case measure => omega
          · have hqb : ((s.extract a n).toList == (wdB k).toList) = false := by rw [beq_eq_false_iff_ne]; exact hq
            go_upto_region 18 with fail
            refine wp_region_above (by kernel_rfl) (by kernel_rfl) ?_
            repeat (go_big_quiet_step (fail))
            refine wpQuiet_nil ?_
            rintro _ ⟨⟨W4, hb4⟩, rfl⟩
            have HY1 := Keep.mk (HY.out.below hb4 HY.out.lt)
            have HX1 := Keep.mk (HX.out.below hb4 HX.out.lt)
            have HW1 := Keep.mk (HW.out.below hb4 HW.out.lt)
            have HB1 := Keep.mk (up HB.out hb4)
            clear hcw hlw
            have HS1 := Keep.mk (show wst (s.extract a n).data.toList (k + 1) = (kd, er) by
              simp only [wst]; rw [if_neg (by rw [HT.out]; intro h; exact hq (by rw [h, ByteArray.toList_eq])), HS.out])
            clear HS HY HX HW HB hq
            go_wp2
            go_roundg (gk - 1)
            case rel => exact ⟨k + 1, kd, er, by go_num, by omega, HS1, HY1, HX1, HW1, HB1⟩
            case measure => omega
        · obtain rfl : k = 3 := by omega
          have h := HWV.out
          rw [HS.out] at h
          simp only [Prod.mk.injEq] at h
          obtain ⟨rfl, rfl⟩ := h
          go_wp2_with fail
          go_meet
          exact ⟨HY, HX, HB⟩
    case rest =>
      clear HX HY HW HB HC HRW
      obtain ⟨HY, HX, HB⟩ := hcut
      have y0 := HY.out.cell 0 _ rfl
      have f0 := HY.out.froz 0
      have y1 := HY.out.cell 1 _ rfl
      have f1 := HY.out.froz 1
      have y2 := HY.out.cell 2 _ rfl
      have f2 := HY.out.froz 2
      have y3 := HY.out.cell 3 _ rfl
      have f3 := HY.out.froz 3
      have y4 := HY.out.cell 4 _ rfl
      have f4 := HY.out.froz 4
      have y5 := HY.out.cell 5 _ rfl
      have f5 := HY.out.froz 5
      have y6 := HY.out.cell 6 _ rfl
      have f6 := HY.out.froz 6
      have y7 := HY.out.cell 7 _ rfl
      have f7 := HY.out.froz 7
      have y8 := HY.out.cell 8 _ rfl
      have f8 := HY.out.froz 8
      have x0 := HX.out.cell 0 _ rfl
      have z0 := HX.out.froz 0
      have x1 := HX.out.cell 1 _ rfl
      have z1 := HX.out.froz 1
      have x2 := HX.out.cell 2 _ rfl
      have z2 := HX.out.froz 2
      have x3 := HX.out.cell 3 _ rfl
      have z3 := HX.out.froz 3
      have x4 := HX.out.cell 4 _ rfl
      have z4 := HX.out.froz 4
      have x5 := HX.out.cell 5 _ rfl
      have z5 := HX.out.froz 5
      have x6 := HX.out.cell 6 _ rfl
      have z6 := HX.out.froz 6
      have x7 := HX.out.cell 7 _ rfl
      have z7 := HX.out.froz 7
      have x8 := HX.out.cell 8 _ rfl
      have z8 := HX.out.froz 8
      have yl2 := HY.out.lt
      have xl2 := HX.out.lt
      go_wp2
      refine bodyPost_ret (v := .tuple #[.agg (tok9 ⟨0, kk, 0, 0, ⟨#[]⟩, a, a + nn, e⟩).toArray, .int .i64 ((n : Nat) : Int)]) ?_ rfl ⟨n, by rw [HE.out], fun h => by rw [HE.out] at h ⊢; exact HEN.out h, ?_⟩
      · simp [tok9, results, Tryz.results23, go_sem, x0, x1, x2, x3, x4, x5, x6, x7, x8]
      · repeat (refine st1 ?_ _ _ _ (by omega))
        exact HB.out
  · have kl : ¬ letterC s[a] = true := by unfold letterC; simpa using k97
    by_cases k45 : s[a].toNat = 45 ∨ (48 ≤ s[a].toNat ∧ s[a].toNat ≤ 57)
    · obtain ⟨n, hn⟩ : ∃ n, a + runB numC (s.data.toList.drop a) = n := ⟨_, rfl⟩
      have HRN := Keep.mk (fun w => ref6_run_num s (by omega) a (by omega) n hn w)
      have hnle : n ≤ s.size := by
        have := runB_le numC (s.data.toList.drop a)
        rw [List.length_drop, size_listU] at this
        omega
      have han : a ≤ n := by omega
      have hTL : (s.extract a n).data.toList = (s[a] :: s.data.toList.drop (a + 1)).take (runB numC (s[a] :: s.data.toList.drop (a + 1))) := by
        rw [← HCO.out, Lib.extract_data, show n - a = runB numC (s.data.toList.drop a) by omega]
      have HPN := Keep.mk (fun w => ref_Parse (s.extract a n) (by rw [ByteArray.size_extract]; omega) w)
      rw [hTL] at HPN
      have HE := Keep.mk (show oneT (s.data.toList.drop a) a = ⟨0, 3, (parseN ((s[a] :: s.data.toList.drop (a + 1)).take (runB numC (s[a] :: s.data.toList.drop (a + 1))))).1.1, (parseN ((s[a] :: s.data.toList.drop (a + 1)).take (runB numC (s[a] :: s.data.toList.drop (a + 1))))).1.2, ⟨#[]⟩, a, a + runB numC (s[a] :: s.data.toList.drop (a + 1)), (parseN ((s[a] :: s.data.toList.drop (a + 1)).take (runB numC (s[a] :: s.data.toList.drop (a + 1))))).2⟩ by
        rw [HO.out]; simp only [oneT]; rw [if_neg n0, if_neg k34, if_neg kl, if_pos k45])
      have hnn : a + runB numC (s[a] :: s.data.toList.drop (a + 1)) = n := by rw [← HCO.out]; exact hn
      rw [hnn] at HE
      have hai : (a : Int) ≤ (n : Int) := by omega
      have hni : (n : Int) ≤ (s.size : Int) := by omega
      have hcs : (((s[a].toNat : Int) == 45) = true ∧ ¬ 97 ≤ s[a].toNat) ∨ (((s[a].toNat : Int) == 45) = false ∧ (48 ≤ s[a].toNat ∧ s[a].toNat ≤ 57) ∧ ¬ 97 ≤ s[a].toNat) := by
        by_cases h : s[a].toNat = 45
        · exact Or.inl ⟨by simp [h], by omega⟩
        · refine Or.inr ⟨by simp; omega, by omega, by omega⟩
      clear HO n0 HCO kl k34 k97 k45 hTL hn hnn
      generalize parseN ((s[a] :: s.data.toList.drop (a + 1)).take (runB numC (s[a] :: s.data.toList.drop (a + 1)))) = q at *
      obtain ⟨⟨m, x⟩, e⟩ := q
      simp only [numRes] at HPN HE
      rcases hcs with ⟨k1, k2⟩ | ⟨k1, ⟨k2, k3⟩, k4⟩
      · skip
        go_wp2_with fail
        refine (HC.out _).mono ?_
        rintro r w1 ⟨rfl, rfl⟩
        go_wp2_with fail
        refine (HRN.out _).mono ?_
        rintro r w2 ⟨rfl, rfl⟩
        go_wp2_with fail
        refine (HPN.out _).mono ?_
        rintro r w3 ⟨rfl, hb3⟩
        have HY2 := Keep.mk ((HY.out.below hb3 HY.out.lt).alloc (.cells #[.int .i64 m, .int .i64 x] 24))
        have HX2 := Keep.mk ((HX.out.below hb3 HX.out.lt).alloc (.cells #[.int .i64 m, .int .i64 x] 24))
        have HB2 := Keep.mk (up (up HB.out hb3) (al1 w3 (.cells #[.int .i64 m, .int .i64 x] 24)))
        clear hb3 HY HX HB
        have f1 := HY2.out.froz 1
        have f2 := HY2.out.froz 2
        have f3 := HY2.out.froz 3
        have f4 := HY2.out.froz 4
        have f5 := HY2.out.froz 5
        have f6 := HY2.out.froz 6
        have f8 := HY2.out.froz 8
        have y1 := HY2.out.cell 1 _ rfl
        have y2 := HY2.out.cell 2 _ rfl
        have y3 := HY2.out.cell 3 _ rfl
        have y4 := HY2.out.cell 4 _ rfl
        have y5 := HY2.out.cell 5 _ rfl
        have y6 := HY2.out.cell 6 _ rfl
        have y8 := HY2.out.cell 8 _ rfl
        have yl2 := HY2.out.lt
        go_upto_region 27 with fail
        refine wp_world (fun W => Box W (w.heap.size + 1) [.int .u8 0, .int .i64 3, .int .i64 m, .int .i64 x, .string ⟨#[]⟩, .slice none 0 0, .slice none 0 0, .int .i64 a, .int .i64 e] ∧ Box W w.heap.size zero9 ∧ Below w.heap.size w W)
          ⟨(((((((HY2.out).set (i := 1) (by simp) _).set (i := 2) (by simp) _).set (i := 3) (by simp) _).set (i := 4) (by simp) _).set (i := 5) (by simp) _).set (i := 6) (by simp) _).set (i := 8) (by simp) _, (((((((HX2.out).other hx1 _).other hx1 _).other hx1 _).other hx1 _).other hx1 _).other hx1 _).other hx1 _, st1 (st1 (st1 (st1 (st1 (st1 (st1 (HB2.out) _ _ _ (by omega)) _ _ _ (by omega)) _ _ _ (by omega)) _ _ _ (by omega)) _ _ _ (by omega)) _ _ _ (by omega)) _ _ _ (by omega)⟩ ?_
        clear HY2 HX2 HB2 f1 f2 f3 f4 f5 f6 f8 y1 y2 y3 y4 y5 y6 y8 yl2
        rintro W5 ⟨HY, HX, HB⟩
        replace HX := Keep.mk HX
        replace HY := Keep.mk HY
        replace HB := Keep.mk HB
        have y0 := HY.out.cell 0 _ rfl
        have f0 := HY.out.froz 0
        have y1 := HY.out.cell 1 _ rfl
        have f1 := HY.out.froz 1
        have y2 := HY.out.cell 2 _ rfl
        have f2 := HY.out.froz 2
        have y3 := HY.out.cell 3 _ rfl
        have f3 := HY.out.froz 3
        have y4 := HY.out.cell 4 _ rfl
        have f4 := HY.out.froz 4
        have y5 := HY.out.cell 5 _ rfl
        have f5 := HY.out.froz 5
        have y6 := HY.out.cell 6 _ rfl
        have f6 := HY.out.froz 6
        have y7 := HY.out.cell 7 _ rfl
        have f7 := HY.out.froz 7
        have y8 := HY.out.cell 8 _ rfl
        have f8 := HY.out.froz 8
        have x0 := HX.out.cell 0 _ rfl
        have z0 := HX.out.froz 0
        have x1 := HX.out.cell 1 _ rfl
        have z1 := HX.out.froz 1
        have x2 := HX.out.cell 2 _ rfl
        have z2 := HX.out.froz 2
        have x3 := HX.out.cell 3 _ rfl
        have z3 := HX.out.froz 3
        have x4 := HX.out.cell 4 _ rfl
        have z4 := HX.out.froz 4
        have x5 := HX.out.cell 5 _ rfl
        have z5 := HX.out.froz 5
        have x6 := HX.out.cell 6 _ rfl
        have z6 := HX.out.froz 6
        have x7 := HX.out.cell 7 _ rfl
        have z7 := HX.out.froz 7
        have x8 := HX.out.cell 8 _ rfl
        have z8 := HX.out.froz 8
        have yl2 := HY.out.lt
        have xl2 := HX.out.lt
        go_wp2
        refine bodyPost_ret (v := .tuple #[.agg (tok9 ⟨0, 3, m, x, ⟨#[]⟩, a, n, e⟩).toArray, .int .i64 ((n : Nat) : Int)]) ?_ rfl ⟨n, by rw [HE.out], fun _ => by rw [HE.out], ?_⟩
        · simp [tok9, results, Tryz.results23, go_sem, x0, x1, x2, x3, x4, x5, x6, x7, x8]
        · repeat (refine st1 ?_ _ _ _ (by omega))
          exact HB.out
      · skip
        go_wp2_with fail
        refine (HC.out _).mono ?_
        rintro r w1 ⟨rfl, rfl⟩
        go_wp2_with fail
        refine (HRN.out _).mono ?_
        rintro r w2 ⟨rfl, rfl⟩
        go_wp2_with fail
        refine (HPN.out _).mono ?_
        rintro r w3 ⟨rfl, hb3⟩
        have HY2 := Keep.mk ((HY.out.below hb3 HY.out.lt).alloc (.cells #[.int .i64 m, .int .i64 x] 24))
        have HX2 := Keep.mk ((HX.out.below hb3 HX.out.lt).alloc (.cells #[.int .i64 m, .int .i64 x] 24))
        have HB2 := Keep.mk (up (up HB.out hb3) (al1 w3 (.cells #[.int .i64 m, .int .i64 x] 24)))
        clear hb3 HY HX HB
        have f1 := HY2.out.froz 1
        have f2 := HY2.out.froz 2
        have f3 := HY2.out.froz 3
        have f4 := HY2.out.froz 4
        have f5 := HY2.out.froz 5
        have f6 := HY2.out.froz 6
        have f8 := HY2.out.froz 8
        have y1 := HY2.out.cell 1 _ rfl
        have y2 := HY2.out.cell 2 _ rfl
        have y3 := HY2.out.cell 3 _ rfl
        have y4 := HY2.out.cell 4 _ rfl
        have y5 := HY2.out.cell 5 _ rfl
        have y6 := HY2.out.cell 6 _ rfl
        have y8 := HY2.out.cell 8 _ rfl
        have yl2 := HY2.out.lt
        go_upto_region 27 with fail
        refine wp_world (fun W => Box W (w.heap.size + 1) [.int .u8 0, .int .i64 3, .int .i64 m, .int .i64 x, .string ⟨#[]⟩, .slice none 0 0, .slice none 0 0, .int .i64 a, .int .i64 e] ∧ Box W w.heap.size zero9 ∧ Below w.heap.size w W)
          ⟨(((((((HY2.out).set (i := 1) (by simp) _).set (i := 2) (by simp) _).set (i := 3) (by simp) _).set (i := 4) (by simp) _).set (i := 5) (by simp) _).set (i := 6) (by simp) _).set (i := 8) (by simp) _, (((((((HX2.out).other hx1 _).other hx1 _).other hx1 _).other hx1 _).other hx1 _).other hx1 _).other hx1 _, st1 (st1 (st1 (st1 (st1 (st1 (st1 (HB2.out) _ _ _ (by omega)) _ _ _ (by omega)) _ _ _ (by omega)) _ _ _ (by omega)) _ _ _ (by omega)) _ _ _ (by omega)) _ _ _ (by omega)⟩ ?_
        clear HY2 HX2 HB2 f1 f2 f3 f4 f5 f6 f8 y1 y2 y3 y4 y5 y6 y8 yl2
        rintro W5 ⟨HY, HX, HB⟩
        replace HX := Keep.mk HX
        replace HY := Keep.mk HY
        replace HB := Keep.mk HB
        have y0 := HY.out.cell 0 _ rfl
        have f0 := HY.out.froz 0
        have y1 := HY.out.cell 1 _ rfl
        have f1 := HY.out.froz 1
        have y2 := HY.out.cell 2 _ rfl
        have f2 := HY.out.froz 2
        have y3 := HY.out.cell 3 _ rfl
        have f3 := HY.out.froz 3
        have y4 := HY.out.cell 4 _ rfl
        have f4 := HY.out.froz 4
        have y5 := HY.out.cell 5 _ rfl
        have f5 := HY.out.froz 5
        have y6 := HY.out.cell 6 _ rfl
        have f6 := HY.out.froz 6
        have y7 := HY.out.cell 7 _ rfl
        have f7 := HY.out.froz 7
        have y8 := HY.out.cell 8 _ rfl
        have f8 := HY.out.froz 8
        have x0 := HX.out.cell 0 _ rfl
        have z0 := HX.out.froz 0
        have x1 := HX.out.cell 1 _ rfl
        have z1 := HX.out.froz 1
        have x2 := HX.out.cell 2 _ rfl
        have z2 := HX.out.froz 2
        have x3 := HX.out.cell 3 _ rfl
        have z3 := HX.out.froz 3
        have x4 := HX.out.cell 4 _ rfl
        have z4 := HX.out.froz 4
        have x5 := HX.out.cell 5 _ rfl
        have z5 := HX.out.froz 5
        have x6 := HX.out.cell 6 _ rfl
        have z6 := HX.out.froz 6
        have x7 := HX.out.cell 7 _ rfl
        have z7 := HX.out.froz 7
        have x8 := HX.out.cell 8 _ rfl
        have z8 := HX.out.froz 8
        have yl2 := HY.out.lt
        have xl2 := HX.out.lt
        go_wp2
        refine bodyPost_ret (v := .tuple #[.agg (tok9 ⟨0, 3, m, x, ⟨#[]⟩, a, n, e⟩).toArray, .int .i64 ((n : Nat) : Int)]) ?_ rfl ⟨n, by rw [HE.out], fun _ => by rw [HE.out], ?_⟩
        · simp [tok9, results, Tryz.results23, go_sem, x0, x1, x2, x3, x4, x5, x6, x7, x8]
        · repeat (refine st1 ?_ _ _ _ (by omega))
          exact HB.out
    · have HE := Keep.mk (show oneT (s.data.toList.drop a) a = ⟨0, 0, 0, 0, ⟨#[]⟩, a, a, 60⟩ by
        rw [HO.out]; simp only [oneT]; rw [if_neg n0, if_neg k34, if_neg kl, if_neg k45])
      have hcs : (¬ 97 ≤ s[a].toNat ∧ ¬ 48 ≤ s[a].toNat) ∨ (¬ 97 ≤ s[a].toNat ∧ 48 ≤ s[a].toNat ∧ ¬ s[a].toNat ≤ 57) ∨ (97 ≤ s[a].toNat ∧ ¬ s[a].toNat ≤ 122 ∧ 48 ≤ s[a].toNat ∧ ¬ s[a].toNat ≤ 57) := by omega
      have b45 : ((s[a].toNat : Int) == 45) = false := by simp; omega
      clear HO n0 HCO kl k34 k97 k45
      rcases hcs with ⟨k1, k2⟩ | ⟨k1, k2, k3⟩ | ⟨k1, k2, k3, k4⟩
      all_goals
        go_wp2_with fail
        refine (HC.out _).mono ?_
        rintro r w1 ⟨rfl, rfl⟩
        have y0 := HY.out.cell 0 _ rfl
        have f0 := HY.out.froz 0
        have y1 := HY.out.cell 1 _ rfl
        have f1 := HY.out.froz 1
        have y2 := HY.out.cell 2 _ rfl
        have f2 := HY.out.froz 2
        have y3 := HY.out.cell 3 _ rfl
        have f3 := HY.out.froz 3
        have y4 := HY.out.cell 4 _ rfl
        have f4 := HY.out.froz 4
        have y5 := HY.out.cell 5 _ rfl
        have f5 := HY.out.froz 5
        have y6 := HY.out.cell 6 _ rfl
        have f6 := HY.out.froz 6
        have y7 := HY.out.cell 7 _ rfl
        have f7 := HY.out.froz 7
        have y8 := HY.out.cell 8 _ rfl
        have f8 := HY.out.froz 8
        have x0 := HX.out.cell 0 _ rfl
        have z0 := HX.out.froz 0
        have x1 := HX.out.cell 1 _ rfl
        have z1 := HX.out.froz 1
        have x2 := HX.out.cell 2 _ rfl
        have z2 := HX.out.froz 2
        have x3 := HX.out.cell 3 _ rfl
        have z3 := HX.out.froz 3
        have x4 := HX.out.cell 4 _ rfl
        have z4 := HX.out.froz 4
        have x5 := HX.out.cell 5 _ rfl
        have z5 := HX.out.froz 5
        have x6 := HX.out.cell 6 _ rfl
        have z6 := HX.out.froz 6
        have x7 := HX.out.cell 7 _ rfl
        have z7 := HX.out.froz 7
        have x8 := HX.out.cell 8 _ rfl
        have z8 := HX.out.froz 8
        have yl2 := HY.out.lt
        have xl2 := HX.out.lt
        go_wp2
        refine bodyPost_ret (v := .tuple #[.agg (tok9 ⟨0, 0, 0, 0, ⟨#[]⟩, a, a, 60⟩).toArray, .int .i64 ((a : Nat) : Int)]) ?_ rfl ⟨a, by rw [HE.out], (fun h => absurd h (by rw [HE.out]; exact (by decide : ¬ (60 : Int) = 0))), ?_⟩
        · simp [tok9, results, Tryz.results23, go_sem, x0, x1, x2, x3, x4, x5, x6, x7, x8]
        · repeat (refine st1 ?_ _ _ _ (by omega))
          exact HB.out
end Go.Proofs.YtbngjlkmpdccjaaGreatDoor
