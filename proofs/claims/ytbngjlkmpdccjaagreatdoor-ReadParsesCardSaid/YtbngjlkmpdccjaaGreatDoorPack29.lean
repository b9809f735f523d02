/- Lemmas and contracts for the laws ReadParses, ReadBytes, part 29 of 50: Next. Conditions: those that each lemma names. -/
import Derived.Test.YtbngjlkmpdccjaaGreatDoorPack9
import Derived.Test.YtbngjlkmpdccjaaGreatDoorPack7
import Derived.Test.YtbngjlkmpdccjaaGreatDoorPack23
import Derived.Test.YtbngjlkmpdccjaaGreatDoorPack13
import Derived.Outline
namespace Go.Proofs.YtbngjlkmpdccjaaGreatDoor
open Go Go.RowKit Go.Proofs Th
attribute [local go_sem] Above.cell
theorem list_ne_bool {a : ByteArray} {l : List UInt8} (h : ¬ a.data.toList = l) : (a.toList == l) = false := by
  rw [ba_list]; simpa using h
theorem list_eq_bool {a : ByteArray} {l : List UInt8} (h : a.data.toList = l) : (a.toList == l) = true := by
  rw [ba_list]; simpa using h
theorem six_below2 (w W : World) (g : Nat) (b0 b1 b2 b3 b4 b5 : Value) (h : w.heap.size ≤ g) (hb : Below w.heap.size w W) : Below w.heap.size w ((((((W.setCell ⟨g, 0, none⟩ b0).setCell ⟨g, 1, none⟩ b1).setCell ⟨g, 2, none⟩ b2).setCell ⟨g, 3, none⟩ b3).setCell ⟨g, 4, none⟩ b4).setCell ⟨g, 5, none⟩ b5) :=
  st1 (st1 (st1 (st1 (st1 (st1 hb _ _ _ h) _ _ _ h) _ _ _ h) _ _ _ h) _ _ _ h) _ _ _ h
def val6 (k m e : Int) : Value := .agg #[.int .i64 k, .int .i64 m, .int .i64 e, .string ⟨#[]⟩, .slice none 0 0, .slice none 0 0]
theorem run_end {p : UInt8 → Bool} {s : ByteArray} {j : Nat} (hj : j ≤ s.size) (h1 : ∀ i (h : i < s.data.toList.length), i < j → p s.data.toList[i] = true) (h2 : j = s.size ∨ ∃ h : j < s.size, p s[j] = false) : runB p s.data.toList = j := by
  refine runB_stop p _ j (by rw [size_listU]; exact hj) h1 ?_
  rcases h2 with h2 | ⟨h, h2⟩
  · exact Or.inl (by rw [size_listU]; exact h2)
  · exact Or.inr ⟨by rw [size_listU]; exact h, h2⟩
theorem run_more {p : UInt8 → Bool} {s : ByteArray} {j : Nat} (hj : j < s.size) (h1 : ∀ i (h : i < s.data.toList.length), i < j → p s.data.toList[i] = true) (h2 : p s[j] = true) : ∀ i (h : i < s.data.toList.length), i < j + 1 → p s.data.toList[i] = true := by
  intro i h hi
  by_cases hij : i < j
  · exact h1 i h hij
  · obtain rfl : i = j := by omega
    exact h2
set_option maxRecDepth 100000 in
set_option maxHeartbeats 4000000 in
theorem read_word (s : ByteArray) (hs : s.size ≤ 100000000) (w : World) : Calls Tryz.prog 19 #[.string s] w fun r w' =>
    r = .returned (.tuple #[val6 (wordV s.data.toList).1 0 0, .int .i64 (wordV s.data.toList).2.1, .int .i64 (wordV s.data.toList).2.2]) ∧ Below w.heap.size w w' := by
  have fin : ∀ j : Nat, j ≤ s.size → Keep (runB letterC s.data.toList = j) → Keep ((wordV s.data.toList = (0, j, 0) ∧ (s.extract 0 j).data.toList = [110, 117, 108, 108]) ∨ (wordV s.data.toList = (1, j, 0) ∧ (s.extract 0 j).data.toList = [102, 97, 108, 115, 101]) ∨ (wordV s.data.toList = (2, j, 0) ∧ (s.extract 0 j).data.toList = [116, 114, 117, 101]) ∨
      (wordV s.data.toList = (0, 0, 60) ∧ ¬ (s.extract 0 j).data.toList = [110, 117, 108, 108] ∧ ¬ (s.extract 0 j).data.toList = [102, 97, 108, 115, 101] ∧ ¬ (s.extract 0 j).data.toList = [116, 114, 117, 101])) := fun j _ h => ⟨by
    unfold wordV
    rw [h.out, bx_from]
    by_cases h1 : s.data.toList.take j = [110, 117, 108, 108]
    · rw [if_pos h1]; exact Or.inl ⟨rfl, h1⟩
    · rw [if_neg h1]
      by_cases h2 : s.data.toList.take j = [102, 97, 108, 115, 101]
      · rw [if_pos h2]; exact Or.inr (Or.inl ⟨rfl, h2⟩)
      · rw [if_neg h2]
        by_cases h3 : s.data.toList.take j = [116, 114, 117, 101]
        · rw [if_pos h3]; exact Or.inr (Or.inr (Or.inl ⟨rfl, h3⟩))
        · rw [if_neg h3]; exact Or.inr (Or.inr (Or.inr ⟨rfl, h1, h2, h3⟩))⟩
  have FIN := Keep.mk fin
  clear fin
  go_enter Tryz.func19, Tryz.ntmps19
  go_upto_block 0 with fail
  go_cut [5] (fun s5 wx => ∃ j : Nat, s5 = .int .i64 j ∧ j ≤ s.size ∧ Keep (runB letterC s.data.toList = j) ∧ w.alloc (.cells #[.int .i64 0, .int .i64 0, .int .i64 0, .string ⟨#[]⟩, .slice none 0 0, .slice none 0 0] 28) = wx)
  case first =>
    go_wp2_with fail
    go_loopg [5] s.size (fun gk i wr => ∃ j : Nat, j + gk = s.size ∧ i = .int .i64 j ∧ Keep (∀ i (h : i < s.data.toList.length), i < j → letterC s.data.toList[i] = true) ∧ w.alloc (.cells #[.int .i64 0, .int .i64 0, .int .i64 0, .string ⟨#[]⟩, .slice none 0 0, .slice none 0 0] 28) = wr)
    case atStart => exact ⟨0, by omega, rfl, ⟨fun _ _ h => absurd h (by omega)⟩, rfl⟩
    case round =>
      obtain ⟨j, hj, rfl, HL, rfl⟩ := hrel
      by_cases hlt : j < s.size
      · have hgk : gk ≠ 0 := by omega
        have hcl := s[j].toNat_lt
        by_cases k1 : 97 ≤ s[j].toNat
        · by_cases k2 : s[j].toNat ≤ 122
          · have HN := Keep.mk (run_more hlt HL.out (by unfold letterC; exact decide_eq_true ⟨k1, k2⟩))
            go_wp2
            go_roundg (gk - 1)
            case rel => exact ⟨j + 1, by omega, by go_num, HN, rfl⟩
            case measure => omega
          · have HE := Keep.mk (run_end (by omega) HL.out (Or.inr ⟨hlt, by unfold letterC; exact decide_eq_false (fun h => k2 h.2)⟩))
            have k2' : 122 < s[j].toNat := by omega
            clear HL
            go_wp2
            go_meet
            exact ⟨j, rfl, by omega, HE, rfl⟩
        · have HE := Keep.mk (run_end (by omega) HL.out (Or.inr ⟨hlt, by unfold letterC; exact decide_eq_false (fun h => k1 h.1)⟩))
          have k1' : s[j].toNat < 97 := by omega
          clear HL
          go_wp2
          go_meet
          exact ⟨j, rfl, by omega, HE, rfl⟩
      · have HE := Keep.mk (run_end (by omega) HL.out (Or.inl (by omega)))
        clear HL
        go_wp2
        go_meet
        exact ⟨j, rfl, by omega, HE, rfl⟩
  case rest =>
    obtain ⟨j, rfl, hj, HR, rfl⟩ := hcut
    have HF := FIN.out j hj HR
    clear FIN HR
    obtain ⟨hE⟩ := HF
    rcases hE with ⟨hE, h1⟩ | ⟨hE, h1⟩ | ⟨hE, h1⟩ | ⟨hE, h1, h2, h3⟩
    · skip
      have b1 := list_eq_bool h1
      have HE := Keep.mk hE
      clear hE
      go_wp2
      refine bodyPost_ret (v := .tuple #[val6 0 0 0, .int .i64 j, .int .i64 0]) ?_ rfl ⟨by rw [HE.out], ?_⟩
      · simp [val6, results, Tryz.results19, go_sem]
      · first | exact al1 _ _ | exact six_below2 _ _ _ _ _ _ _ _ _ (by omega) (al1 _ _)
    · have q1 : ¬ (s.extract 0 j).data.toList = [110, 117, 108, 108] := by rw [h1]; decide
      have b1 := list_ne_bool q1
      have b2 := list_eq_bool h1
      have HE := Keep.mk hE
      clear hE
      go_wp2
      refine bodyPost_ret (v := .tuple #[val6 1 0 0, .int .i64 j, .int .i64 0]) ?_ rfl ⟨by rw [HE.out], ?_⟩
      · simp [val6, results, Tryz.results19, go_sem]
      · first | exact al1 _ _ | exact six_below2 _ _ _ _ _ _ _ _ _ (by omega) (al1 _ _)
    · have q1 : ¬ (s.extract 0 j).data.toList = [110, 117, 108, 108] := by rw [h1]; decide
      have q2 : ¬ (s.extract 0 j).data.toList = [102, 97, 108, 115, 101] := by rw [h1]; decide
      have b1 := list_ne_bool q1
      have b2 := list_ne_bool q2
      have b3 := list_eq_bool h1
      have HE := Keep.mk hE
      clear hE
      go_wp2
      refine bodyPost_ret (v := .tuple #[val6 2 0 0, .int .i64 j, .int .i64 0]) ?_ rfl ⟨by rw [HE.out], ?_⟩
      · simp [val6, results, Tryz.results19, go_sem]
      · first | exact al1 _ _ | exact six_below2 _ _ _ _ _ _ _ _ _ (by omega) (al1 _ _)
    · skip
      have b1 := list_ne_bool h1
      have b2 := list_ne_bool h2
      have b3 := list_ne_bool h3
      have HE := Keep.mk hE
      clear hE
      go_wp2
      refine bodyPost_ret (v := .tuple #[val6 0 0 0, .int .i64 (0 : Nat), .int .i64 60]) ?_ rfl ⟨by rw [HE.out], ?_⟩
      · simp [val6, results, Tryz.results19, go_sem]
      · first | exact al1 _ _ | exact six_below2 _ _ _ _ _ _ _ _ _ (by omega) (al1 _ _)
theorem byte_back (c : UInt8) : ((c.toNat : Int)).toNat.toUInt8 = c := by
  rw [Int.toNat_natCast]; show UInt8.ofNat c.toNat = c; simp
theorem index_by {l : List UInt8} {p : UInt8 → Bool} (h : ∀ c, decide (0 ≤ Lib.indexByte l c) = p c) (c : UInt8) (w : World) (s : ByteArray) (hs : s.data.toList = l) :
    Calls Tryz.prog 17 #[.string s, .int .u8 (c.toNat : Int)] w fun r w' => (∃ z : Int, r = .returned (.int .i64 z) ∧ (p c = true → 0 ≤ z) ∧ (p c = false → z < 0)) ∧ w' = w := by
  refine (Tryz.strings_IndexByte s (c.toNat : Int) w).mono ?_
  rintro r w' ⟨rfl, rfl⟩
  rw [byte_back, hs]
  refine ⟨⟨_, rfl, fun hp => ?_, fun hp => ?_⟩, rfl⟩
  · rw [← h c] at hp; exact of_decide_eq_true hp
  · rw [← h c] at hp; have := of_decide_eq_false hp; omega
set_option maxRecDepth 100000 in
set_option maxHeartbeats 4000000 in
theorem read_digits (s : ByteArray) (hs : s.size ≤ 100000000) (w : World) (hG : Glob w) : Calls Tryz.prog 20 #[.string s] w fun r w' =>
    r = .returned (.tuple #[val6 3 (parseN (s.data.toList.take (runB numC s.data.toList))).1.1 (parseN (s.data.toList.take (runB numC s.data.toList))).1.2, .int .i64 (runB numC s.data.toList), .int .i64 (parseN (s.data.toList.take (runB numC s.data.toList))).2]) ∧ Below w.heap.size w w' := by
  have HG := Keep.mk hG
  clear hG
  obtain ⟨jN, hN⟩ : ∃ j, runB numC s.data.toList = j := ⟨_, rfl⟩
  rw [hN]
  obtain ⟨q, hq⟩ : ∃ q, parseN (s.data.toList.take jN) = q := ⟨_, rfl⟩
  rw [hq]
  obtain ⟨⟨m, x⟩, e⟩ := q
  have HN0 := Keep.mk hN
  have HQ0 := Keep.mk hq
  clear hN hq
  go_enter Tryz.func20, Tryz.ntmps20
  go_upto_block 0 with fail
  go_cut [5] (fun s5 wx => ∃ j : Nat, s5 = .int .i64 j ∧ j ≤ s.size ∧ Keep (runB numC s.data.toList = j) ∧ w.alloc (.cells #[.int .i64 0, .int .i64 0, .int .i64 0, .string ⟨#[]⟩, .slice none 0 0, .slice none 0 0] 28) = wx)
  case first =>
    go_wp2_with fail
    go_loopg [5] s.size (fun gk i wr => ∃ j : Nat, j + gk = s.size ∧ i = .int .i64 j ∧ Keep (∀ i (h : i < s.data.toList.length), i < j → numC s.data.toList[i] = true) ∧ w.alloc (.cells #[.int .i64 0, .int .i64 0, .int .i64 0, .string ⟨#[]⟩, .slice none 0 0, .slice none 0 0] 28) = wr)
    case atStart => exact ⟨0, by omega, rfl, ⟨fun _ _ h => absurd h (by omega)⟩, rfl⟩
    case round =>
      obtain ⟨j, hj, rfl, HL, rfl⟩ := hrel
      by_cases hlt : j < s.size
      · have hgk : gk ≠ 0 := by omega
        have hcl := s[j].toNat_lt
        have HC := Keep.mk (fun w => index_by index_num s[j] w ⟨#[48, 49, 50, 51, 52, 53, 54, 55, 56, 57, 43, 45, 46, 101, 69]⟩ rfl)
        cases k1 : numC s[j]
        · have HE := Keep.mk (run_end (by omega) HL.out (Or.inr ⟨hlt, k1⟩))
          rw [k1] at HC
          clear HL k1
          go_wp2_with fail
          refine (HC.out _).mono ?_
          rintro r w1 ⟨⟨z, rfl, _, hz⟩, rfl⟩
          have hz2 := hz (by first | rfl | trivial)
          have hz3 : ¬ 0 ≤ z := by omega
          clear hz
          go_wp2
          go_meet
          exact ⟨j, rfl, by omega, HE, rfl⟩
        · have HN := Keep.mk (run_more hlt HL.out k1)
          rw [k1] at HC
          clear HL k1
          go_wp2_with fail
          refine (HC.out _).mono ?_
          rintro r w1 ⟨⟨z, rfl, hz, _⟩, rfl⟩
          have hz2 := hz (by first | rfl | trivial)
          clear hz
          go_wp2
          go_roundg (gk - 1)
          case rel => exact ⟨j + 1, by omega, by go_num, HN, rfl⟩
          case measure => omega
      · have HE := Keep.mk (run_end (by omega) HL.out (Or.inl (by omega)))
        clear HL
        go_wp2
        go_meet
        exact ⟨j, rfl, by omega, HE, rfl⟩
  case rest =>
    obtain ⟨j, rfl, hj, HR, rfl⟩ := hcut
    obtain rfl : jN = j := HN0.out.symm.trans HR.out
    have HP := Keep.mk (fun (w : World) (h : Glob w) => num_Parse (s.extract 0 jN) (by simp; omega) w h)
    rw [bx_from, HQ0.out] at HP
    simp only [numRes] at HP
    go_wp2_with fail
    refine (HP.out _ (HG.out.below (al1 _ _))).mono ?_
    rintro r w1 ⟨rfl, hb1⟩
    have HB := Keep.mk (up (al1 w (.cells #[.int .i64 0, .int .i64 0, .int .i64 0, .string ⟨#[]⟩, .slice none 0 0, .slice none 0 0] 28)) hb1)
    have HX := Keep.mk ((Box.new (w := w) (n := w.heap.size) [.int .i64 0, .int .i64 0, .int .i64 0, .string ⟨#[]⟩, .slice none 0 0, .slice none 0 0] 28 rfl).below hb1 (by simp))
    clear hb1
    have x0 := HX.out.cell 0 _ rfl
    have x1 := HX.out.cell 1 _ rfl
    have x2 := HX.out.cell 2 _ rfl
    have x3 := HX.out.cell 3 _ rfl
    have x4 := HX.out.cell 4 _ rfl
    have x5 := HX.out.cell 5 _ rfl
    have z0 := HX.out.froz 0
    have z1 := HX.out.froz 1
    have z2 := HX.out.froz 2
    have z3 := HX.out.froz 3
    have z4 := HX.out.froz 4
    have z5 := HX.out.froz 5
    have xl := HX.out.lt
    go_wp2
    refine bodyPost_ret (v := .tuple #[val6 3 m x, .int .i64 jN, .int .i64 e]) ?_ rfl ⟨rfl, ?_⟩
    · simp [val6, results, Tryz.results20, go_sem, x0, x1, x2, x3, x4, x5, xl]
    · exact (six_below2 _ _ _ _ _ _ _ _ _ (by omega) HB.out).trans ((al1 _ _).mono (by simp; omega))
theorem blank_end {s : ByteArray} {a j : Nat} (haj : a ≤ j) (hj : j ≤ s.size) (h1 : ∀ i (h : i < s.data.toList.length), a ≤ i → i < j → blankC s.data.toList[i] = true) (h2 : j = s.size ∨ ∃ h : j < s.size, blankC s[j] = false) : a + runB blankC (s.data.toList.drop a) = j := by
  have hl := size_listU s
  have : runB blankC (s.data.toList.drop a) = j - a := by
    refine runB_stop _ _ _ (by rw [List.length_drop]; omega) (fun i h hi => ?_) ?_
    · rw [List.getElem_drop]
      exact h1 (a + i) (by rw [List.length_drop] at h; omega) (by omega) (by omega)
    · rcases h2 with h2 | ⟨h, h2⟩
      · exact Or.inl (by rw [List.length_drop]; omega)
      · refine Or.inr ⟨by rw [List.length_drop]; omega, ?_⟩
        rw [List.getElem_drop]
        have e : a + (j - a) = j := by omega
        simp only [e]
        exact h2
  omega
theorem blank_more {s : ByteArray} {a j : Nat} (hj : j < s.size) (h1 : ∀ i (h : i < s.data.toList.length), a ≤ i → i < j → blankC s.data.toList[i] = true) (h2 : blankC s[j] = true) : ∀ i (h : i < s.data.toList.length), a ≤ i → i < j + 1 → blankC s.data.toList[i] = true := by
  intro i h ha hi
  by_cases hij : i < j
  · exact h1 i h ha hij
  · obtain rfl : i = j := by omega
    exact h2
theorem readQ_len (l : List UInt8) : (readQ l).2.1 ≤ l.length := by
  cases l with
  | nil => exact Nat.le_refl _
  | cons c r =>
    simp only [readQ]
    split
    · cases hb : bodyV r with
      | none => exact Nat.zero_le _
      | some p =>
        obtain ⟨t, k⟩ := p
        have := bodyV_ok _ r (Nat.le_refl _) t k hb
        simp; omega
    · exact Nat.zero_le _
def tokC (t : Tk) : List Value := [.int .u8 t.sign, .int .i64 t.k, .int .i64 t.m, .int .i64 t.x, .string t.s, .slice none 0 0, .slice none 0 0, .int .i64 t.at_, .int .i64 t.to_, .int .i64 t.e]
def zero10 : List Value := [.int .u8 0, .int .i64 0, .int .i64 0, .int .i64 0, .string ⟨#[]⟩, .slice none 0 0, .slice none 0 0, .int .i64 0, .int .i64 0, .int .i64 0]
set_option maxRecDepth 100000 in
set_option maxHeartbeats 4000000 in
theorem read_next (s : ByteArray) (hs : s.size ≤ 100000000) (a : Nat) (ha : a ≤ s.size) (w : World) (hG : GlobV w) : Calls Tryz.prog 9 #[.string s, .int .i64 a] w fun r w' =>
    r = .returned (.agg (tokC (nextT s.data.toList a)).toArray) ∧ Below w.heap.size w w' := by
  have HG := Keep.mk hG
  clear hG
  go_enter Tryz.func9, Tryz.ntmps9
  go_upto_block 0 with fail
  refine wp_world (fun W => Box W w.heap.size zero10 ∧ W.heap.size = w.heap.size + 1 ∧ Below w.heap.size w W) ⟨Box.new zero10 _ rfl, by simp, al1 _ _⟩ ?_
  rintro W0 ⟨HX, hsz, HB⟩
  replace HX := Keep.mk HX
  replace HB := Keep.mk HB
  go_cut [1] (fun s1 wx => ∃ j : Nat, s1 = .int .i64 j ∧ a ≤ j ∧ j ≤ s.size ∧ Keep (a + runB blankC (s.data.toList.drop a) = j) ∧ W0 = wx)
  case first =>
    go_wp2_with fail
    go_loopg [1] (s.size - a) (fun gk i wr => ∃ j : Nat, j + gk = s.size ∧ a ≤ j ∧ i = .int .i64 j ∧ Keep (∀ i (h : i < s.data.toList.length), a ≤ i → i < j → blankC s.data.toList[i] = true) ∧ W0 = wr)
    case atStart => exact ⟨a, by omega, by omega, rfl, ⟨fun _ _ h h2 => absurd h (by omega)⟩, rfl⟩
    case round =>
      obtain ⟨j, hj, haj, rfl, HL, rfl⟩ := hrel
      by_cases hlt : j < s.size
      · have hgk : gk ≠ 0 := by omega
        have hcl := s[j].toNat_lt
        by_cases k1 : s[j].toNat = 32 ∨ s[j].toNat = 9 ∨ s[j].toNat = 10 ∨ s[j].toNat = 13
        · have HN := Keep.mk (blank_more hlt HL.out (by unfold blankC; simp; omega))
          clear HL
          rcases k1 with k1 | k1 | k1 | k1
          all_goals
            go_wp2
            go_roundg (gk - 1)
            case rel => exact ⟨j + 1, by omega, by omega, by go_num, HN, rfl⟩
            case measure => omega
        · have HE := Keep.mk (blank_end haj (by omega) HL.out (Or.inr ⟨hlt, by unfold blankC; simp; omega⟩))
          have b1 : ((s[j].toNat : Int) == 32) = false := by simp; omega
          have b2 : ((s[j].toNat : Int) == 9) = false := by simp; omega
          have b3 : ((s[j].toNat : Int) == 10) = false := by simp; omega
          have b4 : ((s[j].toNat : Int) == 13) = false := by simp; omega
          clear HL k1
          go_wp2
          go_meet
          exact ⟨j, rfl, haj, by omega, HE, rfl⟩
      · have HE := Keep.mk (blank_end haj (by omega) HL.out (Or.inl (by omega)))
        clear HL
        go_wp2
        go_meet
        exact ⟨j, rfl, haj, by omega, HE, rfl⟩
  case rest =>
    obtain ⟨j, rfl, haj, hj, HR, rfl⟩ := hcut
    have HT := Keep.mk (show nextT s.data.toList a = oneT (s.data.toList.drop j) j by unfold nextT; rw [HR.out])
    clear HR
    have x0 := HX.out.cell 0 _ rfl
    have x1 := HX.out.cell 1 _ rfl
    have x2 := HX.out.cell 2 _ rfl
    have x3 := HX.out.cell 3 _ rfl
    have x4 := HX.out.cell 4 _ rfl
    have x5 := HX.out.cell 5 _ rfl
    have x6 := HX.out.cell 6 _ rfl
    have x7 := HX.out.cell 7 _ rfl
    have x8 := HX.out.cell 8 _ rfl
    have x9 := HX.out.cell 9 _ rfl
    have z0 := HX.out.froz 0
    have z1 := HX.out.froz 1
    have z2 := HX.out.froz 2
    have z3 := HX.out.froz 3
    have z4 := HX.out.froz 4
    have z5 := HX.out.froz 5
    have z6 := HX.out.froz 6
    have z7 := HX.out.froz 7
    have z8 := HX.out.froz 8
    have z9 := HX.out.froz 9
    have xl := HX.out.lt
    by_cases hjs : j = s.size
    · have HE := Keep.mk (show nextT s.data.toList a = ⟨255, 0, 0, 0, ⟨#[]⟩, j, j, 0⟩ by rw [HT.out, List.drop_eq_nil_of_le (by rw [size_listU]; omega)]; rfl)
      subst hjs
      go_wp2
      refine bodyPost_ret (v := .agg (tokC ⟨255, 0, 0, 0, ⟨#[]⟩, s.size, s.size, 0⟩).toArray) ?_ rfl ⟨by rw [HE.out], ?_⟩
      · simp [tokC, results, Tryz.results9, go_sem, x0, x1, x2, x3, x4, x5, x6, x7, x8, x9]
      · exact st1 (st1 (st1 (st1 (six_below2 _ _ _ _ _ _ _ _ _ (Nat.le_refl _) HB.out) _ _ _ (Nat.le_refl _)) _ _ _ (Nat.le_refl _)) _ _ _ (Nat.le_refl _)) _ _ _ (Nat.le_refl _)
    · have hlt : j < s.size := by omega
      have hcl := s[j].toNat_lt
      have hcons : s.data.toList.drop j = s[j] :: s.data.toList.drop (j + 1) := List.drop_eq_getElem_cons (l := s.data.toList) (i := j) (by rw [size_listU]; exact hlt)
      have HO := Keep.mk (show nextT s.data.toList a = oneT (s[j] :: s.data.toList.drop (j + 1)) j by rw [HT.out, hcons])
      have HCO := Keep.mk hcons
      clear x0 x1 x2 x3 x4 x5 x6 x7 x8 x9 z0 z1 z2 z3 z4 z5 z6 z7 z8 z9 xl HT hcons hjs
      go_upto_block 2 with fail
      refine wp_world (fun W => Box W (w.heap.size + 1) [.int .u8 0, .int .i64 0, .int .i64 0, .int .i64 0, .string ⟨#[]⟩, .slice none 0 0, .slice none 0 0, .int .i64 j, .int .i64 0, .int .i64 0] ∧ Box W w.heap.size zero10 ∧ Below w.heap.size w W)
        ⟨Box.new [.int .u8 0, .int .i64 0, .int .i64 0, .int .i64 0, .string ⟨#[]⟩, .slice none 0 0, .slice none 0 0, .int .i64 j, .int .i64 0, .int .i64 0] _ hsz, HX.out.alloc _, up HB.out (al1 _ _)⟩ ?_
      clear HX HB
      rintro W1 ⟨HY, HX, HB⟩
      replace HX := Keep.mk HX
      replace HY := Keep.mk HY
      replace HB := Keep.mk HB
      go_cut [6] (fun s6 wx => ∃ (sg : Nat) (k m x : Int) (tb : ByteArray) (n : Nat) (e : Int), s6 = .int .i64 n ∧ n ≤ 200000000 ∧ Keep (nextT s.data.toList a = ⟨sg, k, m, x, tb, j, j + n, e⟩) ∧
        Keep (Box wx (w.heap.size + 1) [.int .u8 sg, .int .i64 k, .int .i64 m, .int .i64 x, .string tb, .slice none 0 0, .slice none 0 0, .int .i64 j, .int .i64 0, .int .i64 e]) ∧ Keep (Box wx w.heap.size zero10) ∧ Keep (Below w.heap.size w wx))
      case first =>
        have yl := HY.out.lt
        have HC := Keep.mk (fun w => index_by index_sign s[j] w ⟨#[123, 125, 91, 93, 58, 44]⟩ rfl)
        have hx1 : w.heap.size + 1 ≠ w.heap.size := by omega
        cases k0 : signC s[j]
        case true =>
          have HE := Keep.mk (show nextT s.data.toList a = ⟨s[j].toNat, 0, 0, 0, ⟨#[]⟩, j, j + 1, 0⟩ by rw [HO.out]; simp only [oneT]; rw [if_pos k0])
          rw [k0] at HC
          clear HO k0 HCO
          go_wp2_with fail
          refine (HC.out _).mono ?_
          rintro r w1 ⟨⟨z, rfl, hz, _⟩, rfl⟩
          have hz2 := hz (by first | rfl | trivial)
          clear hz
          have y0 := HY.out.cell 0 _ rfl
          have f0 := HY.out.froz 0
          go_wp2
          go_meet
          exact ⟨_, _, _, _, _, 1, _, rfl, by omega, HE, ⟨HY.out.set (i := 0) (by simp) _⟩, ⟨HX.out.other hx1 _⟩, ⟨st1 HB.out _ _ _ (by omega)⟩⟩
        case false =>
        have n0 : ¬ signC s[j] = true := by rw [k0]; simp
        rw [k0] at HC
        have HZ := Keep.mk (fun (w : World) => (HC.out w).mono (R' := fun r w' => (∃ z : Int, r = .returned (.int .i64 z) ∧ z < 0) ∧ w' = w) (by rintro r w' ⟨⟨z, rfl, _, hz⟩, rfl⟩; exact ⟨⟨z, rfl, hz rfl⟩, rfl⟩))
        clear HC k0
        by_cases k34 : s[j].toNat = 34
        · have HS := Keep.mk (show readQ (s[j] :: s.data.toList.drop (j + 1)) = readQ ((s.extract j s.size).data.toList) by rw [bx_to, HCO.out])
          have HQR := Keep.mk (fun (w : World) (h : Utf w) => quote_Read (s.extract j s.size) (by simp; omega) w h)
          rw [← HS.out] at HQR
          have hok : (readQ (s[j] :: s.data.toList.drop (j + 1))).2.1 ≤ s.size + 1 := by
            have e1 : readQ (s[j] :: s.data.toList.drop (j + 1)) = readQ (s.data.toList.drop j) := by rw [HCO.out]
            have := readQ_len (s.data.toList.drop j)
            rw [List.length_drop, size_listU] at this
            rw [e1]; omega
          have HE := Keep.mk (show nextT s.data.toList a = ⟨0, 4, 0, 0, ⟨(readQ (s[j] :: s.data.toList.drop (j + 1))).1.toArray⟩, j, j + (readQ (s[j] :: s.data.toList.drop (j + 1))).2.1, (readQ (s[j] :: s.data.toList.drop (j + 1))).2.2⟩ by
            rw [HO.out]; simp only [oneT]; rw [if_neg n0, if_pos k34])
          have b34 : ((s[j].toNat : Int) == 34) = true := by simp [k34]
          clear HO HS n0 HCO k34
          generalize readQ (s[j] :: s.data.toList.drop (j + 1)) = q at *
          obtain ⟨tx, n, e⟩ := q
          simp only at hok
          go_wp2_with fail
          refine (HZ.out _).mono ?_
          rintro r w1 ⟨⟨z, rfl, hz⟩, rfl⟩
          have hz3 : ¬ 0 ≤ z := by omega
          have y1 := HY.out.cell 1 _ rfl
          have f1 := HY.out.froz 1
          have HQ1 := Keep.mk (HQR.out (w1.setCell ⟨w.heap.size + 1, 1, none⟩ (.int .i64 4)) (HG.out.utf.below (st1 HB.out _ _ _ (by omega))))
          have HY1 := Keep.mk (HY.out.set (i := 1) (by simp) (.int .i64 4))
          have HX1 := Keep.mk (HX.out.other hx1 (o := 1) (.int .i64 4))
          have HB1 := Keep.mk (st1 HB.out (w.heap.size + 1) 1 (.int .i64 4) (by omega))
          go_wp2_with fail
          refine HQ1.out.mono ?_
          rintro r w2 ⟨tb, rfl, htb, hb2⟩
          obtain rfl : tb = ⟨tx.toArray⟩ := ba_inj (by rw [htb])
          have HY2 := Keep.mk (HY1.out.below hb2 HY1.out.lt)
          have HX2 := Keep.mk (HX1.out.below hb2 HX1.out.lt)
          have HB2 := Keep.mk (up HB1.out hb2)
          clear htb hb2 y1 f1 HY HX HB HY1 HX1 HB1 yl
          have y4 := HY2.out.cell 4 _ rfl
          have f4 := HY2.out.froz 4
          have y9 := HY2.out.cell 9 _ rfl
          have f9 := HY2.out.froz 9
          have yl := HY2.out.lt
          go_wp2
          go_meet
          exact ⟨_, _, _, _, _, n, _, rfl, by omega, HE, ⟨(HY2.out.set (i := 4) (by simp) _).set (i := 9) (by simp) _⟩, ⟨(HX2.out.other hx1 _).other hx1 _⟩, ⟨st1 (st1 HB2.out _ _ _ (by omega)) _ _ _ (by omega)⟩⟩
        · by_cases k97 : 97 ≤ s[j].toNat ∧ s[j].toNat ≤ 122
          · have b34 : ((s[j].toNat : Int) == 34) = false := by simp; omega
            have kl : letterC s[j] = true := by unfold letterC; exact decide_eq_true k97
            have HW := Keep.mk (fun (w : World) => read_word (s.extract j s.size) (by simp; omega) w)
            rw [bx_to, HCO.out] at HW
            have hok : (wordV (s[j] :: s.data.toList.drop (j + 1))).2.1 ≤ s.size := by
              rw [← HCO.out]
              have := runB_le letterC (s.data.toList.drop j)
              rw [List.length_drop, size_listU] at this
              unfold wordV
              repeat' split
              all_goals simp only
              all_goals omega
            have HE := Keep.mk (show nextT s.data.toList a = ⟨0, (wordV (s[j] :: s.data.toList.drop (j + 1))).1, 0, 0, ⟨#[]⟩, j, j + (wordV (s[j] :: s.data.toList.drop (j + 1))).2.1, (wordV (s[j] :: s.data.toList.drop (j + 1))).2.2⟩ by
              rw [HO.out]; simp only [oneT]; rw [if_neg n0, if_neg k34, if_pos kl])
            obtain ⟨k1, k2⟩ := k97
            clear HO n0 HCO kl k34
            generalize wordV (s[j] :: s.data.toList.drop (j + 1)) = q at *
            obtain ⟨kk, n, e⟩ := q
            simp only at hok HW
            go_wp2_with fail
            refine (HZ.out _).mono ?_
            rintro r w1 ⟨⟨z, rfl, hz⟩, rfl⟩
            have hz3 : ¬ 0 ≤ z := by omega
            go_wp2_with fail
            refine (HW.out w1).mono ?_
            rintro r w2 ⟨rfl, hb2⟩
            simp only [val6]
            have HY2 := Keep.mk (HY.out.below hb2 HY.out.lt)
            have HX2 := Keep.mk (HX.out.below hb2 HX.out.lt)
            have HB2 := Keep.mk (up HB.out hb2)
            clear hb2 HY HX HB yl
            have y1 := HY2.out.cell 1 _ rfl
            have f1 := HY2.out.froz 1
            have y2 := HY2.out.cell 2 _ rfl
            have f2 := HY2.out.froz 2
            have y3 := HY2.out.cell 3 _ rfl
            have f3 := HY2.out.froz 3
            have y4 := HY2.out.cell 4 _ rfl
            have f4 := HY2.out.froz 4
            have y5 := HY2.out.cell 5 _ rfl
            have f5 := HY2.out.froz 5
            have y6 := HY2.out.cell 6 _ rfl
            have f6 := HY2.out.froz 6
            have y9 := HY2.out.cell 9 _ rfl
            have f9 := HY2.out.froz 9
            have yl := HY2.out.lt
            go_wp2
            go_meet
            exact ⟨_, _, _, _, _, n, _, rfl, by omega, HE, ⟨(((((((HY2.out.set (i := 1) (by simp) _).set (i := 2) (by simp) _).set (i := 3) (by simp) _).set (i := 4) (by simp) _).set (i := 5) (by simp) _).set (i := 6) (by simp) _).set (i := 9) (by simp) _)⟩, ⟨(((((((HX2.out.other hx1 _).other hx1 _).other hx1 _).other hx1 _).other hx1 _).other hx1 _).other hx1 _)⟩, ⟨(st1 (st1 (st1 (st1 (st1 (st1 (st1 HB2.out _ _ _ (by omega)) _ _ _ (by omega)) _ _ _ (by omega)) _ _ _ (by omega)) _ _ _ (by omega)) _ _ _ (by omega)) _ _ _ (by omega))⟩⟩
          · have b34 : ((s[j].toNat : Int) == 34) = false := by simp; omega
            have kl : ¬ letterC s[j] = true := by unfold letterC; simpa using k97
            have hdis : s[j].toNat = 45 ∨ (48 ≤ s[j].toNat ∧ s[j].toNat ≤ 57) ∨ (s[j].toNat ≠ 45 ∧ ¬ (48 ≤ s[j].toNat ∧ s[j].toNat ≤ 57)) := by omega
            by_cases k45 : s[j].toNat = 45 ∨ (48 ≤ s[j].toNat ∧ s[j].toNat ≤ 57)
            · have HW := Keep.mk (fun (w : World) (h : Glob w) => read_digits (s.extract j s.size) (by simp; omega) w h)
              rw [bx_to, HCO.out] at HW
              have hok : runB numC (s[j] :: s.data.toList.drop (j + 1)) ≤ s.size := by
                rw [← HCO.out]
                have := runB_le numC (s.data.toList.drop j)
                rw [List.length_drop, size_listU] at this
                omega
              have HE := Keep.mk (show nextT s.data.toList a = ⟨0, 3, (parseN ((s[j] :: s.data.toList.drop (j + 1)).take (runB numC (s[j] :: s.data.toList.drop (j + 1))))).1.1, (parseN ((s[j] :: s.data.toList.drop (j + 1)).take (runB numC (s[j] :: s.data.toList.drop (j + 1))))).1.2, ⟨#[]⟩, j, j + runB numC (s[j] :: s.data.toList.drop (j + 1)), (parseN ((s[j] :: s.data.toList.drop (j + 1)).take (runB numC (s[j] :: s.data.toList.drop (j + 1))))).2⟩ by
                rw [HO.out]; simp only [oneT]; rw [if_neg n0, if_neg k34, if_neg kl, if_pos k45])
              have hcs : (((s[j].toNat : Int) == 45) = true ∧ ¬ 97 ≤ s[j].toNat) ∨ (((s[j].toNat : Int) == 45) = false ∧ (48 ≤ s[j].toNat ∧ s[j].toNat ≤ 57) ∧ ¬ 97 ≤ s[j].toNat) := by
                by_cases h : s[j].toNat = 45
                · exact Or.inl ⟨by simp [h], by omega⟩
                · refine Or.inr ⟨by simp; omega, by omega, by omega⟩
              clear HO n0 HCO kl k34 k97 hdis k45
              generalize parseN ((s[j] :: s.data.toList.drop (j + 1)).take (runB numC (s[j] :: s.data.toList.drop (j + 1)))) = q at *
              generalize runB numC (s[j] :: s.data.toList.drop (j + 1)) = n at *
              obtain ⟨⟨m, x⟩, e⟩ := q
              simp only at HW
              rcases hcs with ⟨k1, k2⟩ | ⟨b45, ⟨k1, k2⟩, k3⟩
              · skip
                go_wp2_with fail
                refine (HZ.out _).mono ?_
                rintro r w1 ⟨⟨z, rfl, hz⟩, rfl⟩
                have hz3 : ¬ 0 ≤ z := by omega
                go_wp2_with fail
                refine (HW.out w1 (HG.out.num.below HB.out)).mono ?_
                rintro r w2 ⟨rfl, hb2⟩
                simp only [val6]
                have HY2 := Keep.mk (HY.out.below hb2 HY.out.lt)
                have HX2 := Keep.mk (HX.out.below hb2 HX.out.lt)
                have HB2 := Keep.mk (up HB.out hb2)
                clear hb2 HY HX HB yl
                have y1 := HY2.out.cell 1 _ rfl
                have f1 := HY2.out.froz 1
                have y2 := HY2.out.cell 2 _ rfl
                have f2 := HY2.out.froz 2
                have y3 := HY2.out.cell 3 _ rfl
                have f3 := HY2.out.froz 3
                have y4 := HY2.out.cell 4 _ rfl
                have f4 := HY2.out.froz 4
                have y5 := HY2.out.cell 5 _ rfl
                have f5 := HY2.out.froz 5
                have y6 := HY2.out.cell 6 _ rfl
                have f6 := HY2.out.froz 6
                have y9 := HY2.out.cell 9 _ rfl
                have f9 := HY2.out.froz 9
                have yl := HY2.out.lt
                go_wp2
                go_meet
                exact ⟨_, _, _, _, _, n, _, rfl, by omega, HE, ⟨(((((((HY2.out.set (i := 1) (by simp) _).set (i := 2) (by simp) _).set (i := 3) (by simp) _).set (i := 4) (by simp) _).set (i := 5) (by simp) _).set (i := 6) (by simp) _).set (i := 9) (by simp) _)⟩, ⟨(((((((HX2.out.other hx1 _).other hx1 _).other hx1 _).other hx1 _).other hx1 _).other hx1 _).other hx1 _)⟩, ⟨(st1 (st1 (st1 (st1 (st1 (st1 (st1 HB2.out _ _ _ (by omega)) _ _ _ (by omega)) _ _ _ (by omega)) _ _ _ (by omega)) _ _ _ (by omega)) _ _ _ (by omega)) _ _ _ (by omega))⟩⟩
              · skip
                go_wp2_with fail
                refine (HZ.out _).mono ?_
                rintro r w1 ⟨⟨z, rfl, hz⟩, rfl⟩
                have hz3 : ¬ 0 ≤ z := by omega
                go_wp2_with fail
                refine (HW.out w1 (HG.out.num.below HB.out)).mono ?_
                rintro r w2 ⟨rfl, hb2⟩
                simp only [val6]
                have HY2 := Keep.mk (HY.out.below hb2 HY.out.lt)
                have HX2 := Keep.mk (HX.out.below hb2 HX.out.lt)
                have HB2 := Keep.mk (up HB.out hb2)
                clear hb2 HY HX HB yl
                have y1 := HY2.out.cell 1 _ rfl
                have f1 := HY2.out.froz 1
                have y2 := HY2.out.cell 2 _ rfl
                have f2 := HY2.out.froz 2
                have y3 := HY2.out.cell 3 _ rfl
                have f3 := HY2.out.froz 3
                have y4 := HY2.out.cell 4 _ rfl
                have f4 := HY2.out.froz 4
                have y5 := HY2.out.cell 5 _ rfl
                have f5 := HY2.out.froz 5
                have y6 := HY2.out.cell 6 _ rfl
                have f6 := HY2.out.froz 6
                have y9 := HY2.out.cell 9 _ rfl
                have f9 := HY2.out.froz 9
                have yl := HY2.out.lt
                go_wp2
                go_meet
                exact ⟨_, _, _, _, _, n, _, rfl, by omega, HE, ⟨(((((((HY2.out.set (i := 1) (by simp) _).set (i := 2) (by simp) _).set (i := 3) (by simp) _).set (i := 4) (by simp) _).set (i := 5) (by simp) _).set (i := 6) (by simp) _).set (i := 9) (by simp) _)⟩, ⟨(((((((HX2.out.other hx1 _).other hx1 _).other hx1 _).other hx1 _).other hx1 _).other hx1 _).other hx1 _)⟩, ⟨(st1 (st1 (st1 (st1 (st1 (st1 (st1 HB2.out _ _ _ (by omega)) _ _ _ (by omega)) _ _ _ (by omega)) _ _ _ (by omega)) _ _ _ (by omega)) _ _ _ (by omega)) _ _ _ (by omega))⟩⟩
            · have HE := Keep.mk (show nextT s.data.toList a = ⟨0, 0, 0, 0, ⟨#[]⟩, j, j + 0, 60⟩ by
                rw [HO.out]; simp only [oneT]; rw [if_neg n0, if_neg k34, if_neg kl, if_neg k45]; rfl)
              have hcs : (¬ 97 ≤ s[j].toNat ∧ ¬ 48 ≤ s[j].toNat) ∨ (¬ 97 ≤ s[j].toNat ∧ 48 ≤ s[j].toNat ∧ ¬ s[j].toNat ≤ 57) ∨ (97 ≤ s[j].toNat ∧ ¬ s[j].toNat ≤ 122 ∧ ¬ s[j].toNat ≤ 57) := by omega
              have b45 : ((s[j].toNat : Int) == 45) = false := by simp; omega
              clear HO n0 HCO kl k34 k97 hdis k45
              rcases hcs with ⟨k1, k2⟩ | ⟨k1, k2, k3⟩ | ⟨k1, k2, k3⟩
              all_goals
                go_wp2_with fail
                refine (HZ.out _).mono ?_
                rintro r w1 ⟨⟨z, rfl, hz⟩, rfl⟩
                have hz3 : ¬ 0 ≤ z := by omega
                have y9 := HY.out.cell 9 _ rfl
                have f9 := HY.out.froz 9
                go_wp2
                go_meet
                exact ⟨_, _, _, _, _, 0, _, rfl, by omega, HE, ⟨HY.out.set (i := 9) (by simp) _⟩, ⟨HX.out.other hx1 _⟩, ⟨st1 HB.out _ _ _ (by omega)⟩⟩
      case rest =>
        clear HX HY HB HO HCO
        obtain ⟨sg, k, m, x, tb, n, e, rfl, hn, HE, HY, HX, HB⟩ := hcut
        have y0 := HY.out.cell 0 _ rfl
        have f0 := HY.out.froz 0
        have y1 := HY.out.cell 1 _ rfl
        have f1 := HY.out.froz 1
        have y2 := HY.out.cell 2 _ rfl
        have f2 := HY.out.froz 2
        have y3 := HY.out.cell 3 _ rfl
        have f3 := HY.out.froz 3
        have y4 := HY.out.cell 4 _ rfl
        have f4 := HY.out.froz 4
        have y5 := HY.out.cell 5 _ rfl
        have f5 := HY.out.froz 5
        have y6 := HY.out.cell 6 _ rfl
        have f6 := HY.out.froz 6
        have y7 := HY.out.cell 7 _ rfl
        have f7 := HY.out.froz 7
        have y8 := HY.out.cell 8 _ rfl
        have f8 := HY.out.froz 8
        have y9 := HY.out.cell 9 _ rfl
        have f9 := HY.out.froz 9
        have x0 := HX.out.cell 0 _ rfl
        have z0 := HX.out.froz 0
        have x1 := HX.out.cell 1 _ rfl
        have z1 := HX.out.froz 1
        have x2 := HX.out.cell 2 _ rfl
        have z2 := HX.out.froz 2
        have x3 := HX.out.cell 3 _ rfl
        have z3 := HX.out.froz 3
        have x4 := HX.out.cell 4 _ rfl
        have z4 := HX.out.froz 4
        have x5 := HX.out.cell 5 _ rfl
        have z5 := HX.out.froz 5
        have x6 := HX.out.cell 6 _ rfl
        have z6 := HX.out.froz 6
        have x7 := HX.out.cell 7 _ rfl
        have z7 := HX.out.froz 7
        have x8 := HX.out.cell 8 _ rfl
        have z8 := HX.out.froz 8
        have x9 := HX.out.cell 9 _ rfl
        have z9 := HX.out.froz 9
        have yl := HY.out.lt
        have xl := HX.out.lt
        have hx1 : w.heap.size + 1 ≠ w.heap.size := by omega
        go_wp2
        refine bodyPost_ret (v := .agg (tokC ⟨sg, k, m, x, tb, j, j + n, e⟩).toArray) ?_ rfl ⟨by rw [HE.out], ?_⟩
        · simp [tokC, results, Tryz.results9, go_sem, x0, x1, x2, x3, x4, x5, x6, x7, x8, x9]
        · exact (st1 (st1 (st1 (st1 (st1 (st1 (st1 (st1 (st1 (st1 (st1 HB.out _ _ _ (by omega)) _ _ _ (Nat.le_refl _)) _ _ _ (Nat.le_refl _)) _ _ _ (Nat.le_refl _)) _ _ _ (Nat.le_refl _)) _ _ _ (Nat.le_refl _)) _ _ _ (Nat.le_refl _)) _ _ _ (Nat.le_refl _)) _ _ _ (Nat.le_refl _)) _ _ _ (Nat.le_refl _)) _ _ _ (Nat.le_refl _))
end Go.Proofs.YtbngjlkmpdccjaaGreatDoor
