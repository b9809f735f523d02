/- Lemmas and contracts for the laws CalcWith, part 9 of 50: Ref2, Law. Conditions: those that each lemma names. -/
import Derived.Test.YtnkokhpadcgfbaaGreatDoorPw6
import Derived.Test.YtnkokhpadcgfbaaGreatDoorPw4
import Derived.Deep.LoopGhost
import Derived.Outline
import Derived.Deep.CutBlock
import Derived.Deep.DeepCutAuto
namespace Go.Proofs.YtnkokhpadcgfbaaGreatDoor
open Go Go.RowKit Go.Proofs Th
attribute [local go_sem] Above.cell
attribute [local go_sem ↓] conv1 conv2 conv3 conv4
set_option maxRecDepth 100000 in
theorem ref2_Char_bad (c : Int) (hbad : c < 0 ∨ 1114111 < c ∨ (55296 ≤ c ∧ c ≤ 57343)) (w : World) : Calls Tryz.prog 181 #[.int .i64 c] w fun r w' => r = .returned (strB (charS c)) ∧ Below w.heap.size w w' := by
  have HE := Keep.mk (charS_bad hbad)
  rcases hbad with hb | hb | ⟨hb, hb2⟩
  all_goals
    go_enter Tryz.func181, Tryz.ntmps181
    go_wp2
    go_ret
    exact ⟨ret_strB HE.out.symm, Below.refl _ _⟩
set_option maxRecDepth 100000 in
theorem ref2_Char_ok (c : Int) (h0 : 0 ≤ c) (h1 : c ≤ 1114111) (h2 : c < 55296 ∨ 57343 < c) (w : World) : Calls Tryz.prog 181 #[.int .i64 c] w fun r w' => r = .returned (strB (charS c)) ∧ Below w.heap.size w w' := by
  by_cases c1 : c < 128
  · have HE := Keep.mk (charS_one h0 c1)
    clear h2
    go_enter Tryz.func181, Tryz.ntmps181
    go_wp2
    go_ret
    exact ⟨by rw [str_nums]; exact ret_strB HE.out.symm, al1 _ _⟩
  · by_cases c2 : c < 2048
    · have HE := Keep.mk (charS_two (by omega) c2)
      clear h2
      go_enter Tryz.func181, Tryz.ntmps181
      go_wp2
      go_ret
      exact ⟨by rw [str_nums]; exact ret_strB HE.out.symm, al1 _ _⟩
    · by_cases c3 : c < 65536
      · have HE := Keep.mk (charS_three (by omega) c3 h2)
        rcases h2 with h2 | h2
        all_goals
          go_enter Tryz.func181, Tryz.ntmps181
          go_wp2
          go_ret
          exact ⟨by rw [str_nums]; exact ret_strB HE.out.symm, al1 _ _⟩
      · have HE := Keep.mk (charS_four (by omega) h1)
        go_enter Tryz.func181, Tryz.ntmps181
        go_wp2
        go_ret
        exact ⟨by rw [str_nums]; exact ret_strB HE.out.symm, al1 _ _⟩
theorem ref2_Char (c : Int) (w : World) : Calls Tryz.prog 181 #[.int .i64 c] w fun r w' => r = .returned (strB (charS c)) ∧ Below w.heap.size w w' := by
  by_cases hbad : c < 0 ∨ 1114111 < c ∨ (55296 ≤ c ∧ c ≤ 57343)
  · exact ref2_Char_bad c hbad w
  · exact ref2_Char_ok c (by omega) (by omega) (by omega) w
end Go.Proofs.YtnkokhpadcgfbaaGreatDoor
namespace Go.Proofs.YtnkokhpadcgfbaaGreatDoor
open Go Go.RowKit Go.Proofs Th
attribute [local go_sem] Above.cell
def headS (n : Nat) : Int := if n = 2 then 192 else if n = 3 then 224 else if n = 4 then 240 else 0
def partS (l : List UInt8) (n : Nat) : Nat → Int
  | 0 => ((l.getD 0 0).toNat : Int) - headS n
  | j + 1 => partS l n j * 64 + ((l.getD (j + 1) 0).toNat : Int) - 128
theorem getD_at (s : ByteArray) (i : Nat) (h : i < s.size) : s.data.toList.getD i 0 = s[i] := by
  have h2 : i < s.data.toList.length := by simpa using h
  rw [List.getD_eq_getElem?_getD, List.getElem?_eq_getElem h2]; rfl
theorem part_cand (l : List UInt8) (n : Nat) (h1 : 1 ≤ n) (h4 : n ≤ 4) : partS l n (n - 1) = candS l n := by
  have hn : n = 1 ∨ n = 2 ∨ n = 3 ∨ n = 4 := by omega
  rcases hn with rfl | rfl | rfl | rfl
  · show ((l.getD 0 0).toNat : Int) - 0 = _
    simp only [candS]; omega
  · rfl
  · rfl
  · rfl
theorem part_le (l : List UInt8) (n j : Nat) (hj : j ≤ 3) : -100000000 ≤ partS l n j ∧ partS l n j ≤ 100000000 := by
  have hh : 0 ≤ headS n ∧ headS n ≤ 240 := by unfold headS; split; omega; split; omega; split <;> omega
  have k0 := (l.getD 0 0).toNat_lt
  have k1 := (l.getD (0 + 1) 0).toNat_lt
  have k2 := (l.getD (1 + 1) 0).toNat_lt
  have k3 := (l.getD (2 + 1) 0).toNat_lt
  have hj : j = 0 ∨ j = 1 ∨ j = 2 ∨ j = 3 := by omega
  rcases hj with rfl | rfl | rfl | rfl
  all_goals (simp only [partS]; omega)
theorem first_some (l : List UInt8) (n : Nat) (h1 : 1 ≤ n) (h4 : n ≤ 4) (hl : n ≤ l.length) (h : charS (candS l n) = l.take n) : firstS l = ((candS l n).toNat, n) ∧ 0 ≤ candS l n := by
  obtain ⟨hb, hn⟩ := (cand_iff l n h1 h4 hl).1 h
  have hv := cand_val l n hn hb
  unfold firstS
  rw [if_neg (fun h' => h'.elim (fun h0 => by clear hb hn hv h h'; rw [h0] at hl; exact absurd (Nat.le_trans h1 hl) (by decide)) hb)]
  refine ⟨?_, by omega⟩
  rw [hv, ← hn, Int.toNat_natCast]
theorem first_none (l : List UInt8) (h : ∀ n, 1 ≤ n → n ≤ 4 → n ≤ l.length → ¬ charS (candS l n) = l.take n) : firstS l = (0, 0) := by
  unfold firstS
  by_cases hl : l = [] ∨ badD l
  · rw [if_pos hl]
  · exfalso
    have hne : l ≠ [] := fun h => hl (Or.inl h)
    have h1 := Lib.decodeL_width l
    have h4 := width_four l
    have h5 := Lib.decodeL_le l hne
    obtain ⟨n, hn⟩ : ∃ n, (Lib.decodeL l).2 = n := ⟨_, rfl⟩
    rw [hn] at h1 h4 h5
    exact h n h1 h4 h5 ((cand_iff l n h1 h4 h5).2 ⟨fun h => hl (Or.inr h), hn⟩)
structure HeadsAt (w : World) (g : Nat) (W : World) : Prop where
  at_ : ∀ n, n ≤ 4 → W.cell? ⟨g, n, none⟩ = some (.int .i64 (headS n))
  lt : g < W.heap.size
  old : Below w.heap.size w W
theorem HeadsAt.below {w W W' : World} {g : Nat} (h : HeadsAt w g W) (hb : Below W.heap.size W W') : HeadsAt w g W' :=
  ⟨fun n hn => (hb.cell (p := ⟨g, n, none⟩) h.lt).trans (h.at_ n hn), Nat.lt_of_lt_of_le h.lt hb.size, up h.old hb⟩
set_option maxRecDepth 100000 in
theorem ref2_First (s : ByteArray) (hs : s.size ≤ 9223372036854775000) (w : World) : Calls Tryz.prog 133 #[.string s] w fun r w' => r = .returned (.tuple #[.int .i64 (firstS s.data.toList).1, .int .i64 (firstS s.data.toList).2]) ∧ Below w.heap.size w w' := by
  go_enter Tryz.func133, Tryz.ntmps133
  go_upto_block 0 with fail
  refine wp_world (fun W => HeadsAt w w.heap.size W) ⟨fun n hn => ?_, by simp, al1 _ _⟩ ?_
  · have : n = 0 ∨ n = 1 ∨ n = 2 ∨ n = 3 ∨ n = 4 := by omega
    rcases this with rfl | rfl | rfl | rfl | rfl <;> simp [go_sem, headS]
  rintro W0 HW0
  replace HW0 := Keep.mk HW0
  go_cut [5] (fun s5 wx => Keep (firstS s.data.toList = (0, 0)) ∧ Keep (Below w.heap.size w wx))
  case first =>
    go_wp2_with fail
    go_loopg [5] 4 (fun gk n wr => ∃ k : Nat, n = .int .i64 k ∧ 1 ≤ k ∧ k + gk = 5 ∧ Keep (∀ j, 1 ≤ j → j < k → j ≤ s.size → ¬ charS (candS s.data.toList j) = s.data.toList.take j) ∧ Keep (HeadsAt w w.heap.size wr))
    case atStart => exact ⟨1, rfl, by omega, by omega, ⟨by omega⟩, HW0⟩
    case round =>
      obtain ⟨k, rfl, hk1, hk, HN, HW⟩ := hrel
      by_cases hk4 : k ≤ 4
      · by_cases hks : k ≤ s.size
        · have hgk : gk ≠ 0 := by omega
          have h0s : 0 < s.size := by omega
          have hc := HW.out.at_ k hk4
          have hlt := HW.out.lt
          have HP := Keep.mk (show partS s.data.toList k 0 = (s[0].toNat : Int) - headS k by rw [← getD_at s 0 h0s]; rfl)
          have hb0 := s[0].toNat_lt
          have hh : 0 ≤ headS k ∧ headS k ≤ 240 := by unfold headS; split; omega; split; omega; split <;> omega
          obtain ⟨hh0, hh1⟩ := hh
          generalize headS k = hd at *
          go_upto_region 5 with fail
          refine wp_region_above (by kernel_rfl) (by kernel_rfl) ?_
          repeat (go_big_quiet_step (fail))
          refine wpQuiet_nil ?_
          rintro _ ⟨x, rfl⟩
          have HW1 := Keep.mk (HW.out.below x.property)
          go_upto_block 2 with fail
          go_cut [6] (fun s6 wx => s6 = .int .i64 (candS s.data.toList k) ∧ Keep (HeadsAt w w.heap.size wx))
          case first =>
            go_wp2_with fail
            go_loop [6, 7] (fun c i => ∃ j : Nat, j < k ∧ i = .int .i64 ((j : Int) + 1) ∧ c = .int .i64 (partS s.data.toList k j)) (fun _ i => k - (intOf i).toNat)
            case atStart => exact ⟨0, by omega, rfl, by rw [HP.out]⟩
            case round =>
              obtain ⟨j, hj, rfl, rfl⟩ := hrel
              by_cases hjk : j + 1 < k
              · have hjs : j + 1 < s.size := by omega
                have HS := Keep.mk (show partS s.data.toList k (j + 1) = partS s.data.toList k j * 64 + (s[j + 1].toNat : Int) - 128 by rw [← getD_at s (j + 1) hjs]; rfl)
                obtain ⟨hp0, hp1⟩ := part_le s.data.toList k j (by omega)
                have hb1 := s[j + 1].toNat_lt
                generalize partS s.data.toList k j = pj at *
                go_wp2
                go_round
                case rel => exact ⟨j + 1, by omega, by go_num, by rw [HS.out]⟩
                case measure => simp [intOf]; omega
              · have HE := Keep.mk (show partS s.data.toList k j = candS s.data.toList k by rw [← part_cand _ _ hk1 hk4]; congr 1; omega)
                go_wp2_with fail
                go_meet
                exact ⟨by rw [HE.out], HW1⟩
          case rest =>
            clear HW HW1
            obtain ⟨rfl, HW⟩ := hcut
            have HC := Keep.mk (fun w => ref2_Char (candS s.data.toList k) w)
            have HF := Keep.mk (first_some s.data.toList k hk1 hk4 (by simpa using hks))
            obtain ⟨bs, hbs⟩ : ∃ bs : ByteArray, (⟨(charS (candS s.data.toList k)).toArray⟩ : ByteArray) = bs := ⟨_, rfl⟩
            have hcs : charS (candS s.data.toList k) = bs.toList := by rw [← hbs, ba_list]
            have hex : s.data.toList.take k = (s.extract 0 k).toList := by rw [ba_list, bx_from]
            have HC := Keep.mk (fun w => show Calls Tryz.prog 181 #[.int .i64 (candS s.data.toList k)] w fun r w' => r = .returned (.string bs) ∧ Below w.heap.size w w' from hbs ▸ ref2_Char (candS s.data.toList k) w)
            by_cases heq : charS (candS s.data.toList k) = s.data.toList.take k
            · have hbb : (bs.toList == (s.extract 0 k).toList) = true := by rw [beq_iff_eq, ← hcs, ← hex]; exact heq
              obtain ⟨hF, hF0⟩ := first_some s.data.toList k hk1 hk4 (by simpa using hks) heq
              have HF := Keep.mk (show (Value.tuple #[.int .i64 (candS s.data.toList k), .int .i64 k]) = (.tuple #[.int .i64 (firstS s.data.toList).1, .int .i64 (firstS s.data.toList).2]) by rw [hF]; simp only; rw [Int.toNat_of_nonneg hF0])
              clear heq hF hF0 hbs hcs hex
              generalize candS s.data.toList k = cd at *
              go_upto_region 10 with fail
              refine wp_region_above (by kernel_rfl) (by kernel_rfl) ?_
              repeat (go_big_quiet_step ((go_at_call 181; exact calls_above (HC.out _))))
              refine wpQuiet_nil ?_
              rintro _ ⟨x2, rfl⟩
              go_wp2
              go_ret2
              exact ⟨by rw [← HF.out]; rfl, up HW.out.old x2.property⟩
            · have hbb : (bs.toList == (s.extract 0 k).toList) = false := by rw [beq_eq_false_iff_ne, ← hcs, ← hex]; exact heq
              have HN2 := Keep.mk (show ∀ j, 1 ≤ j → j < k + 1 → j ≤ s.size → ¬ charS (candS s.data.toList j) = s.data.toList.take j by
                intro j h1 h2 h3
                by_cases hjk : j < k
                · exact HN.out j h1 hjk h3
                · obtain rfl : j = k := by omega
                  exact heq)
              clear heq hbs hcs hex
              generalize candS s.data.toList k = cd at *
              go_upto_region 10 with fail
              refine wp_region_above (by kernel_rfl) (by kernel_rfl) ?_
              repeat (go_big_quiet_step ((go_at_call 181; exact calls_above (HC.out _))))
              refine wpQuiet_nil ?_
              rintro _ ⟨x2, rfl⟩
              have HW2 := Keep.mk (HW.out.below x2.property)
              go_wp2
              go_roundg (gk - 1)
              case rel => exact ⟨k + 1, by go_num, by omega, by omega, HN2, HW2⟩
              case measure => omega
        · have HE := Keep.mk (first_none s.data.toList (by
            intro n h1 h4 hl
            exact HN.out n h1 (by simp at hl; omega) (by simpa using hl)))
          go_wp2_with fail
          go_meet
          exact ⟨HE, ⟨HW.out.old⟩⟩
      · have HE := Keep.mk (first_none s.data.toList (by
          intro n h1 h4 hl
          exact HN.out n h1 (by omega) (by simpa using hl)))
        go_wp2_with fail
        go_meet
        exact ⟨HE, ⟨HW.out.old⟩⟩
  case rest =>
    clear HW0
    obtain ⟨HE, HW⟩ := hcut
    go_wp2_with fail
    go_ret2
    exact ⟨by rw [HE.out]; rfl, HW.out⟩
set_option maxRecDepth 100000 in
theorem ref2_Right (s : ByteArray) (hs : s.size ≤ 9223372036854775000) (w : World) : Calls Tryz.prog 134 #[.string s] w fun r w' => r = .returned (.bool (Lib.validD s.data.toList)) ∧ Below w.heap.size w w' := by
  go_enter Tryz.func134, Tryz.ntmps134
  go_wp2_with fail
  go_loopg [0] (s.size + 1) (fun gk v wr => ∃ t : ByteArray, v = .string t ∧ t.size < gk ∧ t.size ≤ s.size ∧ Keep (Lib.validD t.data.toList = Lib.validD s.data.toList) ∧ Keep (Below w.heap.size w wr))
  case atStart => exact ⟨s, rfl, by omega, by omega, ⟨rfl⟩, ⟨Below.refl _ _⟩⟩
  case round =>
    obtain ⟨t, rfl, hg, hts, HV, HW⟩ := hrel
    by_cases h0 : 0 < t.size
    · have hne : t.data.toList ≠ [] := by intro h; have h2 := size_listU t; rw [h] at h2; exact absurd h2 (by show ¬ 0 = _; omega)
      have HC := Keep.mk (fun w => ref2_First t (by omega) w)
      have HS := Keep.mk (validD_step t.data.toList hne)
      have hgk : gk ≠ 0 := by omega
      by_cases hb : badD t.data.toList
      · have HF := Keep.mk (show firstS t.data.toList = (0, 0) by unfold firstS; rw [if_pos (Or.inr hb)])
        have HE := Keep.mk (show Lib.validD s.data.toList = false by rw [← HV.out, HS.out, if_pos hb])
        clear hb hne
        go_wp2_with fail
        refine (HC.out _).mono ?_
        rw [HF.out]
        rintro r w1 ⟨rfl, hb1⟩
        go_wp2
        go_ret
        exact ⟨by rw [HE.out]; rfl, up HW.out hb1⟩
      · obtain ⟨n, hn⟩ : ∃ n, (Lib.decodeL t.data.toList).2 = n := ⟨_, rfl⟩
        have hn1 := Lib.decodeL_width t.data.toList
        have hn2 := Lib.decodeL_le t.data.toList hne
        rw [hn] at hn1 hn2
        have hn3 : n ≤ t.size := by simpa using hn2
        have HF := Keep.mk (show (firstS t.data.toList).2 = n by unfold firstS; rw [if_neg (by rintro (h | h); exact hne h; exact hb h)]; exact hn)
        have HE := Keep.mk (show Lib.validD (t.extract n t.size).data.toList = Lib.validD s.data.toList by rw [← HV.out, HS.out, if_neg hb, bx_to, hn])
        have hsz : (t.extract n t.size).size = t.size - n := by rw [ByteArray.size_extract]; omega
        have hnb : ((n : Int) == 0) = false := by simp; omega
        obtain ⟨c, hc⟩ : ∃ c, (firstS t.data.toList).1 = c := ⟨_, rfl⟩
        have HF1 := Keep.mk hc
        clear hb hne hn hn2 hc
        go_wp2_with fail
        refine (HC.out _).mono ?_
        rw [HF.out, HF1.out]
        rintro r w1 ⟨rfl, hb1⟩
        go_wp2
        go_roundg (gk - 1)
        case rel => exact ⟨t.extract n t.size, rfl, by omega, by omega, HE, ⟨up HW.out hb1⟩⟩
        case measure => omega
    · have HE := Keep.mk (show Lib.validD s.data.toList = true by
        rw [← HV.out, show t.data.toList = [] from List.eq_nil_of_length_eq_zero ((size_listU t).trans (by omega))]; rfl)
      go_wp2
      go_ret
      exact ⟨by rw [HE.out]; rfl, HW.out⟩
end Go.Proofs.YtnkokhpadcgfbaaGreatDoor
namespace Go.Proofs.YtnkokhpadcgfbaaGreatDoor
open Go Go.RowKit Go.Proofs Th
attribute [local go_sem] Above.cell
def hexB : ByteArray := ⟨#[48, 49, 50, 51, 52, 53, 54, 55, 56, 57, 97, 98, 99, 100, 101, 102]⟩
theorem hex_at (d : Nat) (h : d < 16) : hexB.extract d (d + 1) = ⟨#[hexS d]⟩ := by
  have : d = 0 ∨ d = 1 ∨ d = 2 ∨ d = 3 ∨ d = 4 ∨ d = 5 ∨ d = 6 ∨ d = 7 ∨ d = 8 ∨ d = 9 ∨ d = 10 ∨ d = 11 ∨ d = 12 ∨ d = 13 ∨ d = 14 ∨ d = 15 := by omega
  rcases this with rfl | rfl | rfl | rfl | rfl | rfl | rfl | rfl | rfl | rfl | rfl | rfl | rfl | rfl | rfl | rfl <;> decide
theorem charS_rune {c : Nat} (h : c < 55296 ∨ (57343 < c ∧ c ≤ 1114111)) : charS c = Lib.encodeRune c := by unfold charS; rw [if_neg (by omega)]
set_option maxRecDepth 100000 in
theorem ref2_one_quote (c : Nat) (h : c = 34 ∨ c = 92) (w : World) : Calls Tryz.prog 160 #[.int .i64 c] w fun r w' => r = .returned (strB (escS c)) ∧ Below w.heap.size w w' := by
  have HC := Keep.mk (fun w => calls_str (ref2_Char c w))
  have HE : Keep (escS c = [92] ++ charS c ∧ (charS c).length = 1) := ⟨by rcases h with rfl | rfl <;> decide⟩
  generalize charS c = l at *
  generalize escS c = l2 at *
  have hc2 : ((c : Int) == 34) = true ∨ (((c : Int) == 34) = false ∧ ((c : Int) == 92) = true) := by rcases h with rfl | rfl <;> simp
  clear h
  rcases hc2 with h1 | ⟨h1, h2⟩
  all_goals
    go_enter Tryz.func160, Tryz.ntmps160
    go_wp2_with fail
    refine (HC.out _).mono ?_
    rintro r w1 ⟨b, rfl, hl, hsz, hb⟩
    rw [HE.out.2] at hsz
    have HL := Keep.mk hl
    clear hl
    go_wp2
    go_ret
    exact ⟨ret_as (by rw [ba_append, HL.out, HE.out.1]), hb⟩
set_option maxRecDepth 100000 in
theorem ref2_one_short (c : Nat) (h : c = 8 ∨ c = 9 ∨ c = 10 ∨ c = 12 ∨ c = 13) (w : World) : Calls Tryz.prog 160 #[.int .i64 c] w fun r w' => r = .returned (strB (escS c)) ∧ Below w.heap.size w w' := by
  rcases h with rfl | rfl | rfl | rfl | rfl
  all_goals
    go_enter Tryz.func160, Tryz.ntmps160
    go_wp2
    go_ret
    exact ⟨ret_as (by rw [ba_append]; decide), Below.refl _ _⟩
set_option maxRecDepth 100000 in
theorem ref2_one_hex (c : Nat) (h : c < 8 ∨ c = 11 ∨ (13 < c ∧ c < 32)) (w : World) : Calls Tryz.prog 160 #[.int .i64 c] w fun r w' => r = .returned (strB (escS c)) ∧ Below w.heap.size w w' := by
  have HE := Keep.mk (show escS c = [92, 117, 48, 48] ++ [hexS (c / 16)] ++ [hexS (c % 16)] by
    unfold escS
    rw [if_neg (by omega), if_neg (by omega), if_neg (by omega), if_neg (by omega), if_neg (by omega), if_neg (by omega), if_pos (by omega)]
    rfl)
  have H1 := Keep.mk (hex_at (c / 16) (by omega))
  have H2 := Keep.mk (hex_at (c % 16) (by omega))
  have h1 : ((c : Int) == 34) = false := by simp; omega
  have h2 : ((c : Int) == 92) = false := by simp; omega
  have hlt : (c : Int) < 32 := by omega
  obtain ⟨q, hq⟩ : ∃ q : Nat, (c : Int) / 16 = q := ⟨c / 16, by push_cast; rfl⟩
  obtain ⟨m, hm⟩ : ∃ m : Nat, (c : Int) % 16 = m := ⟨c % 16, by push_cast; rfl⟩
  have hq' : c / 16 = q := by omega
  have hm' : c % 16 = m := by omega
  rw [hq'] at H1 HE
  rw [hm'] at H2 HE
  have hq2 : q < 2 := by omega
  have hm2 : m < 16 := by omega
  have HH : Keep (hexB.extract q (q + 1) = ⟨#[hexS q]⟩ ∧ hexB.extract m (m + 1) = ⟨#[hexS m]⟩) := ⟨H1.out, H2.out⟩
  clear hq' hm' H1 H2
  have h3 : (c : Int) < 8 ∨ ((c : Int) != 11) = false ∧ 8 ≤ (c : Int) ∧ (c : Int) ≤ 13 ∨ 13 < (c : Int) := by
    rcases h with h | h | h
    · left; omega
    · right; left; subst h; exact ⟨by simp, by omega, by omega⟩
    · right; right; omega
  clear h
  rcases h3 with h3 | ⟨h3, h4, h5⟩ | h3
  all_goals
    go_enter Tryz.func160, Tryz.ntmps160
    go_wp2_with fail
    refine wp_region_above (by kernel_rfl) (by kernel_rfl) ?_
    repeat (go_big_quiet_step (fail))
    refine wpQuiet_nil ?_
    rintro _ ⟨x, rfl⟩
    go_wp2
    go_ret
    exact ⟨ret_as (by simp only [ba_append]; show _ ++ (hexB.extract q (q + 1)).data.toList ++ (hexB.extract m (m + 1)).data.toList = _; rw [HH.out.1, HH.out.2, HE.out]), x.property⟩
set_option maxRecDepth 100000 in
theorem ref2_one_plain (c : Nat) (h1 : 32 ≤ c) (h2 : c ≠ 34) (h3 : c ≠ 92) (h : c < 55296 ∨ (57343 < c ∧ c ≤ 1114111)) (w : World) : Calls Tryz.prog 160 #[.int .i64 c] w fun r w' => r = .returned (strB (escS c)) ∧ Below w.heap.size w w' := by
  have HC := Keep.mk (fun w => calls_str (ref2_Char c w))
  have HE := Keep.mk (show escS c = charS c by
    unfold escS
    rw [if_neg (by omega), if_neg (by omega), if_neg (by omega), if_neg (by omega), if_neg (by omega), if_neg (by omega), if_neg (by omega), charS_rune h])
  have k1 : ((c : Int) == 34) = false := by simp; omega
  have k2 : ((c : Int) == 92) = false := by simp; omega
  clear h
  go_enter Tryz.func160, Tryz.ntmps160
  go_wp2_with fail
  refine (HC.out _).mono ?_
  rintro r w1 ⟨b, rfl, hl, hsz, hb⟩
  have HL := Keep.mk hl
  clear hl hsz
  go_wp2
  go_ret
  exact ⟨ret_as (by rw [HL.out, HE.out]), hb⟩
theorem ret_as2 {a : ByteArray} {l : List UInt8} {v : Value} (h : a.data.toList = l) : Ending.returned (.tuple #[.string a, v]) = .returned (.tuple #[strB l, v]) := by
  rw [show strB l = .string ⟨l.toArray⟩ from rfl, ba_inj (a := a) (b := ⟨l.toArray⟩) h]
theorem ref2_one (c : Nat) (h : c < 55296 ∨ (57343 < c ∧ c ≤ 1114111)) (w : World) : Calls Tryz.prog 160 #[.int .i64 c] w fun r w' => r = .returned (strB (escS c)) ∧ Below w.heap.size w w' := by
  by_cases h1 : c = 34 ∨ c = 92
  · exact ref2_one_quote c h1 w
  · by_cases h2 : c = 8 ∨ c = 9 ∨ c = 10 ∨ c = 12 ∨ c = 13
    · exact ref2_one_short c h2 w
    · by_cases h3 : c < 32
      · exact ref2_one_hex c (by omega) w
      · exact ref2_one_plain c (by omega) (by omega) (by omega) h w
theorem rune_ok (l : List UInt8) (hb : ¬ badD l) : (Lib.decodeL l).1 < 55296 ∨ (57343 < (Lib.decodeL l).1 ∧ (Lib.decodeL l).1 ≤ 1114111) := by
  unfold badD at hb
  rw [Lib.decodeL_N] at hb ⊢
  have k0 := (l.getD 0 0).toNat_lt
  rcases Lib.decodeN_shape l.length (l.getD 0 0).toNat (l.getD 1 0).toNat (l.getD 2 0).toNat (l.getD 3 0).toNat with ⟨c, e⟩ | ⟨c1, c2, c3, cv, e⟩ | ⟨c1, c2, c3, c4, cv, cs, e⟩ | ⟨c1, c2, c3, c4, c5, cv, cw, e⟩ | e
  all_goals (rw [e] at hb ⊢; dsimp only at hb ⊢)
  · omega
  · omega
  · omega
  · omega
  · exact absurd ⟨rfl, rfl⟩ hb
theorem ne_of_pos {t : ByteArray} (h : 0 < t.size) : t.data.toList ≠ [] := by
  intro h1
  have h2 := size_listU t
  rw [h1] at h2
  exact absurd h2 (by show ¬ 0 = _; omega)
theorem nil_of_zero {t : ByteArray} (h : ¬ 0 < t.size) : t.data.toList = [] := List.eq_nil_of_length_eq_zero ((size_listU t).trans (by omega))
set_option maxRecDepth 100000 in
theorem ref2_Write (s : ByteArray) (hs : s.size ≤ 100000000000) (hv : Lib.validD s.data.toList = true) (w : World) : Calls Tryz.prog 102 #[.string s] w fun r w' => r = .returned (.tuple #[strB (quoteD s.data.toList), .int .i64 0]) ∧ Below w.heap.size w w' := by
  have hbl := bodyD_le s.data.toList
  rw [size_listU] at hbl
  have HV := Keep.mk hv
  go_enter Tryz.func102, Tryz.ntmps102
  go_wp2_with fail
  refine (ref2_Right s (by omega) _).mono ?_
  rw [hv]
  rintro r w1 ⟨rfl, hb⟩
  have HB := Keep.mk hb
  clear hb hv
  go_wp2_with fail
  go_loopg [0, 4] (s.size + 1) (fun gk v o wr => ∃ t ob : ByteArray, v = .string t ∧ o = .string ob ∧ t.size < gk ∧ t.size ≤ s.size ∧ ob.size + (bodyD t.data.toList).length = 1 + (bodyD s.data.toList).length ∧ Keep (ob.data.toList ++ bodyD t.data.toList = 34 :: bodyD s.data.toList) ∧ Keep (Lib.validD t.data.toList = true) ∧ Keep (Below w.heap.size w wr))
  case atStart => exact ⟨s, ⟨#[34]⟩, rfl, rfl, by omega, by omega, rfl, ⟨rfl⟩, HV, HB⟩
  case round =>
    obtain ⟨t, ob, rfl, rfl, hg, hts, hsz, HO, HT, HW⟩ := hrel
    by_cases h0 : 0 < t.size
    · have hne := ne_of_pos h0
      have hgk : gk ≠ 0 := by omega
      have hnb : ¬ badD t.data.toList := by
        intro hb
        have := HT.out
        rw [validD_step _ hne, if_pos hb] at this
        cases this
      have HC := Keep.mk (fun w => ref2_First t (by omega) w)
      have hr := rune_ok _ hnb
      have hn1 := Lib.decodeL_width t.data.toList
      have hn2 := Lib.decodeL_le t.data.toList hne
      rw [size_listU] at hn2
      have hst := bodyD_step _ hne
      have hvt := validD_step _ hne
      rw [if_neg hnb, HT.out] at hvt
      have hf : firstS t.data.toList = Lib.decodeL t.data.toList := by unfold firstS; rw [if_neg (by rintro (h | h); exact hne h; exact hnb h)]
      obtain ⟨c, hc⟩ : ∃ c, (Lib.decodeL t.data.toList).1 = c := ⟨_, rfl⟩
      obtain ⟨n, hn⟩ : ∃ n, (Lib.decodeL t.data.toList).2 = n := ⟨_, rfl⟩
      rw [hc] at hr hst
      rw [hn] at hn1 hn2 hst hvt
      have HF := Keep.mk (show (firstS t.data.toList).1 = c ∧ (firstS t.data.toList).2 = n by rw [hf]; exact ⟨hc, hn⟩)
      have HC1 := Keep.mk (fun w => calls_str (ref2_one c hr w))
      have hex : (t.extract n t.size).data.toList = t.data.toList.drop n := bx_to t n
      rw [← hex] at hst hvt
      have HST := Keep.mk hst
      have HVT := Keep.mk hvt.symm
      have hle := escS_le c
      have hsl : (bodyD t.data.toList).length = (escS c).length + (bodyD (t.extract n t.size).data.toList).length := by rw [hst, List.length_append]
      have hxs : (t.extract n t.size).size = t.size - n := by rw [ByteArray.size_extract]; omega
      clear hne hnb hf hc hn hst hvt hex
      go_wp2_with fail
      refine (HC.out _).mono ?_
      rw [HF.out.1, HF.out.2]
      rintro r w1 ⟨rfl, hb1⟩
      go_wp2_with fail
      refine (HC1.out _).mono ?_
      rintro r w2 ⟨b, rfl, hbl2, hbs, hb2⟩
      have HBL := Keep.mk hbl2
      clear hbl2
      go_wp2
      go_roundg (gk - 1)
      case rel => exact ⟨t.extract n t.size, ob ++ b, rfl, rfl, by omega, by omega, by rw [ByteArray.size_append]; omega, ⟨by rw [ba_append, HBL.out, ← HO.out, HST.out, List.append_assoc]⟩, HVT, ⟨up (up HW.out hb1) hb2⟩⟩
      case measure => omega
    · have HE := Keep.mk (show ob.data.toList = 34 :: bodyD s.data.toList by rw [← HO.out, nil_of_zero h0, bodyD_nil, List.append_nil])
      have hbz : (bodyD t.data.toList).length = 0 := by rw [nil_of_zero h0]; rfl
      go_wp2
      go_ret2
      exact ⟨ret_as2 (by rw [ba_append, HE.out]; rfl), HW.out⟩
end Go.Proofs.YtnkokhpadcgfbaaGreatDoor
namespace Go.Proofs.YtnkokhpadcgfbaaGreatDoor
open Go Go.RowKit Go.Proofs Th
theorem calls_world {P : Program} {f : FuncId} {args : Array Value} {w : World} {Q : Ending → World → Prop} (F : World → Prop) (h : F w) (k : ∀ W, F W → Calls P f args W Q) : Calls P f args w Q := k w h
end Go.Proofs.YtnkokhpadcgfbaaGreatDoor
