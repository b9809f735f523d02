/- Lemmas and contracts for the laws CalcWith, part 10 of 50: Quote, TokMath. Conditions: those that each lemma names. -/
import Derived.Test.YtnkokhpadcgfbaaGreatDoorPw2
import Derived.Test.YtnkokhpadcgfbaaGreatDoorPw6
import Derived.Deep.AppendLies
import Derived.Deep.LoopGhost
import Derived.Deep.RegionLaw
import Derived.Deep.DrawnRows
import Derived.Deep.CutBlock
import Derived.Deep.DeepCutAuto
import Derived.IntWalk
import Derived.Outline
import Derived.Lib.Bytealg
namespace Go.Proofs.YtnkokhpadcgfbaaGreatDoor
open Go Go.RowKit Go.Proofs Th
attribute [local go_sem] Above.cell
def Utf (w : World) : Prop := Lib.Utf8Tabs 5 6 w
theorem Utf.below {w w' : World} (h : Utf w) (b : Below w.heap.size w w') : Utf w' := by
  refine ⟨fun c hc => (b.cell (lt_of_cell (h.1 c hc))).trans (h.1 c hc), fun i hi => ⟨(b.cell (lt_of_cell (h.2 i hi).1)).trans (h.2 i hi).1, (b.cell (lt_of_cell (h.2 i hi).2)).trans (h.2 i hi).2⟩⟩
theorem rune_ok' (l : List UInt8) (hb : ¬ badD l) : (Lib.decodeL l).1 < 55296 ∨ (57343 < (Lib.decodeL l).1 ∧ (Lib.decodeL l).1 ≤ 1114111) := by
  unfold badD at hb
  rw [Lib.decodeL_N] at hb ⊢
  have k0 := (l.getD 0 0).toNat_lt
  rcases Lib.decodeN_shape l.length (l.getD 0 0).toNat (l.getD 1 0).toNat (l.getD 2 0).toNat (l.getD 3 0).toNat with ⟨c, e⟩ | ⟨c1, c2, c3, cv, e⟩ | ⟨c1, c2, c3, c4, cv, cs, e⟩ | ⟨c1, c2, c3, c4, c5, cv, cw, e⟩ | e
  all_goals (rw [e] at hb ⊢; dsimp only at hb ⊢)
  · omega
  · omega
  · omega
  · omega
  · exact absurd ⟨rfl, rfl⟩ hb
theorem iter_new (w : World) (s : ByteArray) {k : Nat} (h : w.heap.size = k) : Iter (w.iter s 0) k s 0 := by
  subst h; exact World.iter_heap w s 0
theorem below_iter (w : World) (s : ByteArray) (pos : Nat) : Below w.heap.size w (w.iter s pos) := al1 w _
theorem below_at {w W : World} (h : Below w.heap.size w W) {k : Nat} (hk : w.heap.size ≤ k) (s : ByteArray) (pos : Nat) : Below w.heap.size w (W.iterAt k s pos) := Lib.below_iterAt h hk s pos
theorem own_iter {w : World} {base : Nat} {v : Value} {bs : List UInt8} (h : OwnB w base v bs) (s : ByteArray) (pos : Nat) : OwnB (w.iter s pos) base v bs := h.below (below_iter w s pos) (Nat.le_refl _)
set_option maxRecDepth 100000 in
theorem and15 : ∀ X : Fin 32, bits .and .i32 ((X.val : Nat) : Int) 15 = ((X.val % 16 : Nat) : Int) := by decide
set_option maxRecDepth 100000 in
theorem hexi : ∀ (d : Nat), d < 16 → ∀ w : World, (Instr.index 9 (.string ⟨#[48, 49, 50, 51, 52, 53, 54, 55, 56, 57, 97, 98, 99, 100, 101, 102]⟩) (.int .i32 (d : Int))).run Tryz.prog w = .ok (.int .u8 ((hexS d).toNat : Int)) w := by
  intro d h w
  have : d = 0 ∨ d = 1 ∨ d = 2 ∨ d = 3 ∨ d = 4 ∨ d = 5 ∨ d = 6 ∨ d = 7 ∨ d = 8 ∨ d = 9 ∨ d = 10 ∨ d = 11 ∨ d = 12 ∨ d = 13 ∨ d = 14 ∨ d = 15 := by omega
  rcases this with rfl | rfl | rfl | rfl | rfl | rfl | rfl | rfl | rfl | rfl | rfl | rfl | rfl | rfl | rfl | rfl
  all_goals (clear h; revert w; intro w; first | rfl | (show _ = _; kernel_rfl))
theorem append_rune (B : Nat) (v : Value) (acc : List UInt8) (c : Nat) (hc : c ≤ 1114111) (w : World) (hO : OwnB w B v acc) (hl : acc.length ≤ 100000000000) (hB : B ≤ w.heap.size) :
    Calls Tryz.prog 184 #[v, .int .i32 c] w fun r w' => ∃ v', r = .returned v' ∧ OwnB w' B v' (acc ++ Lib.encodeRune c) ∧ Below B w w' ∧ (∀ k s pos, Iter w k s pos → Iter w' k s pos) := by
  refine (Tryz.utf8_AppendRune_plain B v acc.length (Lib.byteCells acc) c (by omega) (by omega) w hO (by omega) hB).mono ?_
  rintro r w' ⟨v', rfl, h1, o, h2⟩
  refine ⟨v', rfl, ?_, ((Below.refl B w).alloc hB o).grown h2 (by simp; omega) fun k hk => (World.ownsRow.lt hO k hk).1, fun k s pos hi => (hi.alloc o).grown (hO.alloc o) h2⟩
  unfold OwnB
  rw [List.length_append, Lib.byteCells_append, Lib.byteCells_encodeRune, ← Lib.runeCells_length]
  exact h1
theorem quote_Right (s : ByteArray) (hs : s.size ≤ 9223372036854775807) (w : World) (hu : Utf w) : Calls Tryz.prog 108 #[.string s] w fun r w' => r = .returned (.bool (Lib.validD s.data.toList)) ∧ Below w.heap.size w w' := by
  go_enter Tryz.func108, Tryz.ntmps108
  go_wp2_with fail
  refine (Tryz.utf8_ValidString s _ hs hu).mono ?_
  rintro r w1 ⟨rfl, hb⟩
  go_wp2
  go_ret
  exact ⟨rfl, hb⟩
set_option maxRecDepth 100000 in
set_option maxHeartbeats 4000000 in
theorem quote_Write (s : ByteArray) (hs : s.size ≤ 1000000000) (hv : Lib.validD s.data.toList = true) (w : World) (hu : Utf w) : Calls Tryz.prog 136 #[.string s] w fun r w' => ∃ b : ByteArray, r = .returned (.tuple #[.string b, .int .i64 0]) ∧ b.data.toList = quoteD s.data.toList ∧ Below w.heap.size w w' := by
  have hbl := bodyD_le s.data.toList
  rw [size_listU] at hbl
  have HV := Keep.mk hv
  go_enter Tryz.func136, Tryz.ntmps136
  go_wp2_with fail
  refine (quote_Right s (by omega) _ hu).mono ?_
  rw [hv]
  rintro r w1 ⟨rfl, hb⟩
  have HB := Keep.mk hb
  clear hb hv
  go_upto_block 0 with fail
  refine wp_world (fun W => OwnB W w1.heap.size (.slice (some ⟨w1.heap.size, 0, none⟩) 1 1) [34] ∧ Iter W (w1.heap.size + 1) s 0 ∧ Below w.heap.size w W)
    ⟨own_iter (OwnB.new (w := w1) [34] rfl (Nat.le_refl _) (by simp [maxLen]) rfl) s 0, iter_new _ _ (by simp), up (up HB.out (al1 _ _)) (below_iter _ _ _)⟩ ?_
  have hwB := HB.out.size
  generalize w1.heap.size = B at *
  rintro W0 ⟨HO0, HI0, HB0⟩
  replace HO0 := Keep.mk HO0
  replace HI0 := Keep.mk HI0
  replace HB0 := Keep.mk HB0
  clear HB
  go_cut [4] (fun s4 wx => ∃ (v : Value) (acc : List UInt8), v = s4 ∧ B ≤ wx.heap.size ∧ Keep (OwnB wx B v acc) ∧ Keep (acc = 34 :: bodyD s.data.toList) ∧ Keep (Below w.heap.size w wx))
  case first =>
    go_wp2_with fail
    go_loopg [4] s.size (fun gk v' wr => ∃ (v : Value) (pos : Nat) (acc : List UInt8), v = v' ∧ pos + gk = s.size ∧ acc.length + (bodyD (s.data.toList.drop pos)).length = 1 + (bodyD s.data.toList).length ∧ Keep (OwnB wr B v acc) ∧ Keep (Iter wr (B + 1) s pos) ∧ Keep (acc ++ bodyD (s.data.toList.drop pos) = 34 :: bodyD s.data.toList) ∧ Keep (Lib.validD (s.data.toList.drop pos) = true) ∧ Keep (Below w.heap.size w wr))
    case atStart => exact ⟨_, 0, [34], rfl, by omega, by rw [List.drop_zero]; rfl, HO0, HI0, ⟨by rw [List.drop_zero]; rfl⟩, ⟨by rw [List.drop_zero]; exact HV.out⟩, HB0⟩
    case round =>
      clear HO0 HI0 HB0
      obtain ⟨v, pos, acc, rfl, hpos, hlen, HO, HI, HA, HT, HW⟩ := hrel
      by_cases hp : pos < s.size
      · have hgk : gk ≠ 0 := by omega
        have hne : s.data.toList.drop pos ≠ [] := by
          intro h
          have h2 := congrArg List.length h
          rw [List.length_drop, size_listU] at h2
          simp at h2; omega
        have hnb : ¬ badD (s.data.toList.drop pos) := by
          intro hb
          have := HT.out
          rw [validD_step _ hne, if_pos hb] at this
          cases this
        have hst := bodyD_step _ hne
        have hvt := validD_step _ hne
        rw [if_neg hnb, HT.out] at hvt
        have hr := rune_ok' _ hnb
        have hn1 := Lib.decodeL_width (s.data.toList.drop pos)
        have hn2 := Lib.decodeL_le _ hne
        rw [List.length_drop, size_listU] at hn2
        have hdd := Lib.decodeL_drop s pos
        obtain ⟨⟨c, n⟩, hcn⟩ : ∃ x, Lib.decodeL (s.data.toList.drop pos) = x := ⟨_, rfl⟩
        rw [hcn] at hst hvt hr hn1 hn2 hdd
        simp only [List.drop_drop] at hst hvt hr hn1 hn2
        have hnx : ∀ ty, (Instr.next (.pointer (some ⟨B + 1, 0, none⟩)) true ty).run Tryz.prog wr = .ok (.tuple #[.bool true, .int .i64 pos, .int .i32 c]) (wr.iterAt (B + 1) s (pos + n)) := fun ty => by
          have := Lib.run_next_any_at (P := Tryz.prog) wr (B + 1) s pos ty HI.out hp
          rw [← hdd] at this; exact this
        have hle := escS_le c
        have hsl : (bodyD (s.data.toList.drop pos)).length = (escS c).length + (bodyD (s.data.toList.drop (pos + n))).length := by rw [hst, List.length_append]
        have HST := Keep.mk hst
        have HVT := Keep.mk hvt.symm
        clear hne hnb hst hvt hdd hcn
        go_upto_block 2 with fail
        refine wp_world (fun W => OwnB W B v acc ∧ Iter W (B + 1) s (pos + n) ∧ Below w.heap.size w W) ⟨HO.out.iter HI.out _, Lib.iterAt_heap _ _ _ _ _ HI.out, below_at HW.out (by omega) _ _⟩ ?_
        clear hnx HO HI HW
        rintro W1 ⟨HO, HI, HW⟩
        replace HO := Keep.mk HO
        replace HI := Keep.mk HI
        replace HW := Keep.mk HW
        have hwB1 : B ≤ W1.heap.size := by have := HI.out.lt; omega
        have HREL : Keep (∀ (v9 : Value) (w9 : World), OwnB w9 B v9 (acc ++ escS c) → Iter w9 (B + 1) s (pos + n) → Below w.heap.size w w9 → ∃ (v : Value) (pos' : Nat) (acc' : List UInt8), v = v9 ∧ pos' + (gk - n) = s.size ∧ acc'.length + (bodyD (s.data.toList.drop pos')).length = 1 + (bodyD s.data.toList).length ∧ Keep (OwnB w9 B v acc') ∧ Keep (Iter w9 (B + 1) s pos') ∧ Keep (acc' ++ bodyD (s.data.toList.drop pos') = 34 :: bodyD s.data.toList) ∧ Keep (Lib.validD (s.data.toList.drop pos') = true) ∧ Keep (Below w.heap.size w w9)) :=
          ⟨fun v9 w9 h1 h2 h3 => ⟨v9, pos + n, acc ++ escS c, rfl, by omega, by rw [List.length_append]; omega, ⟨h1⟩, ⟨h2⟩, ⟨by rw [← HA.out, HST.out, List.append_assoc]⟩, HVT, ⟨h3⟩⟩⟩
        have hal : acc.length ≤ 10000000000 := by omega
        clear hlen hsl hle HA HST HVT hpos
        by_cases h34 : c = 34
        · subst h34
          have HE := Keep.mk (show escS 34 = [92, 34] by decide)
          go_wp2_with (at_builtin; refine wpList_append_bytes rfl (.tmp 26) (.tmp 29) rfl B v acc rfl (HO.out.alloc _) ⟨W1.heap.size, 0, none⟩ 2 2 [92, 34] rfl rfl (bytes_new [92, 34] _ rfl) (by simp; omega) (by simp; omega) ?_)
          intro v9 w9 hO9 hb9 hi9
          go_wp2
          go_roundg (gk - n)
          case rel => exact HREL.out v9 w9 (by rw [HE.out]; exact hO9) (hi9 _ _ _ (HI.out.alloc _)) (HW.out.trans ((al1 _ _).mono HW.out.size |>.trans (hb9.mono hwB)))
          case measure => omega
        · by_cases h92 : c = 92
          · subst h92
            have HE := Keep.mk (show escS 92 = [92, 92] by decide)
            go_wp2_with (at_builtin; refine wpList_append_bytes rfl (.tmp 26) (.tmp 29) rfl B v acc rfl (HO.out.alloc _) ⟨W1.heap.size, 0, none⟩ 2 2 [92, 92] rfl rfl (bytes_new [92, 92] _ rfl) (by simp; omega) (by simp; omega) ?_)
            intro v9 w9 hO9 hb9 hi9
            go_wp2
            go_roundg (gk - n)
            case rel => exact HREL.out v9 w9 (by rw [HE.out]; exact hO9) (hi9 _ _ _ (HI.out.alloc _)) (HW.out.trans ((al1 _ _).mono HW.out.size |>.trans (hb9.mono hwB)))
            case measure => omega
          · by_cases h8 : c = 8
            · subst h8
              clear h34 h92
              have HE := Keep.mk (show escS 8 = [92, 98] by decide)
              go_wp2_with (at_builtin; refine wpList_append_bytes rfl (.tmp 34) (.tmp 35) rfl B v acc rfl (HO.out.alloc _) ⟨W1.heap.size, 0, none⟩ 2 2 [92, 98] rfl rfl (bytes_new [92, 98] _ rfl) (by simp; omega) (by simp; omega) ?_)
              intro v9 w9 hO9 hb9 hi9
              go_wp2
              go_roundg (gk - n)
              case rel => exact HREL.out v9 w9 (by rw [HE.out]; exact hO9) (hi9 _ _ _ (HI.out.alloc _)) (HW.out.trans ((al1 _ _).mono HW.out.size |>.trans (hb9.mono hwB)))
              case measure => omega
            · by_cases h9 : c = 9
              · subst h9
                clear h34 h92
                have HE := Keep.mk (show escS 9 = [92, 116] by decide)
                go_wp2_with (at_builtin; refine wpList_append_bytes rfl (.tmp 40) (.tmp 41) rfl B v acc rfl (HO.out.alloc _) ⟨W1.heap.size, 0, none⟩ 2 2 [92, 116] rfl rfl (bytes_new [92, 116] _ rfl) (by simp; omega) (by simp; omega) ?_)
                intro v9 w9 hO9 hb9 hi9
                go_wp2
                go_roundg (gk - n)
                case rel => exact HREL.out v9 w9 (by rw [HE.out]; exact hO9) (hi9 _ _ _ (HI.out.alloc _)) (HW.out.trans ((al1 _ _).mono HW.out.size |>.trans (hb9.mono hwB)))
                case measure => omega
              · by_cases h10 : c = 10
                · subst h10
                  clear h34 h92
                  have HE := Keep.mk (show escS 10 = [92, 110] by decide)
                  go_wp2_with (at_builtin; refine wpList_append_bytes rfl (.tmp 46) (.tmp 47) rfl B v acc rfl (HO.out.alloc _) ⟨W1.heap.size, 0, none⟩ 2 2 [92, 110] rfl rfl (bytes_new [92, 110] _ rfl) (by simp; omega) (by simp; omega) ?_)
                  intro v9 w9 hO9 hb9 hi9
                  go_wp2
                  go_roundg (gk - n)
                  case rel => exact HREL.out v9 w9 (by rw [HE.out]; exact hO9) (hi9 _ _ _ (HI.out.alloc _)) (HW.out.trans ((al1 _ _).mono HW.out.size |>.trans (hb9.mono hwB)))
                  case measure => omega
                · by_cases h12 : c = 12
                  · subst h12
                    clear h34 h92
                    have HE := Keep.mk (show escS 12 = [92, 102] by decide)
                    go_wp2_with (at_builtin; refine wpList_append_bytes rfl (.tmp 52) (.tmp 53) rfl B v acc rfl (HO.out.alloc _) ⟨W1.heap.size, 0, none⟩ 2 2 [92, 102] rfl rfl (bytes_new [92, 102] _ rfl) (by simp; omega) (by simp; omega) ?_)
                    intro v9 w9 hO9 hb9 hi9
                    go_wp2
                    go_roundg (gk - n)
                    case rel => exact HREL.out v9 w9 (by rw [HE.out]; exact hO9) (hi9 _ _ _ (HI.out.alloc _)) (HW.out.trans ((al1 _ _).mono HW.out.size |>.trans (hb9.mono hwB)))
                    case measure => omega
                  · by_cases h13 : c = 13
                    · subst h13
                      clear h34 h92
                      have HE := Keep.mk (show escS 13 = [92, 114] by decide)
                      go_wp2_with (at_builtin; refine wpList_append_bytes rfl (.tmp 58) (.tmp 59) rfl B v acc rfl (HO.out.alloc _) ⟨W1.heap.size, 0, none⟩ 2 2 [92, 114] rfl rfl (bytes_new [92, 114] _ rfl) (by simp; omega) (by simp; omega) ?_)
                      intro v9 w9 hO9 hb9 hi9
                      go_wp2
                      go_roundg (gk - n)
                      case rel => exact HREL.out v9 w9 (by rw [HE.out]; exact hO9) (hi9 _ _ _ (HI.out.alloc _)) (HW.out.trans ((al1 _ _).mono HW.out.size |>.trans (hb9.mono hwB)))
                      case measure => omega
                    · by_cases h32 : c < 32
                      · have HE := Keep.mk (show escS c = [92, 117, 48, 48, hexS (c / 16), hexS (c % 16)] by
                          unfold escS
                          rw [if_neg (by omega), if_neg h8, if_neg h9, if_neg h10, if_neg h12, if_neg h13, if_pos h32])
                        have b0 : ((c : Int) == 34) = false := by simp; omega
                        have b1 : ((c : Int) == 92) = false := by simp; omega
                        have b2 : ((c : Int) == 8) = false := by simp; omega
                        have b3 : ((c : Int) == 9) = false := by simp; omega
                        have b4 : ((c : Int) == 10) = false := by simp; omega
                        have b5 : ((c : Int) == 12) = false := by simp; omega
                        have b6 : ((c : Int) == 13) = false := by simp; omega
                        have hlt : (c : Int) < 32 := by omega
                        clear h34 h92 h8 h9 h10 h12 h13
                        obtain ⟨q, hq⟩ : ∃ q : Nat, (c : Int) / 16 = q := ⟨c / 16, by push_cast; rfl⟩
                        have hqe : c / 16 = q := by omega
                        obtain ⟨m, hm⟩ : ∃ m : Nat, c % 16 = m := ⟨_, rfl⟩
                        have hand : bits .and .i32 (c : Int) 15 = m := by
                          have := and15 ⟨c, by omega⟩
                          rw [hm] at this; exact this
                        rw [hqe, hm] at HE
                        have hiq := hexi q (by omega)
                        have him := hexi m (by omega)
                        have hq2 : q < 2 := by omega
                        have hm2 : m < 16 := by omega
                        generalize hexS q = x1 at *
                        generalize hexS m = x2 at *
                        clear hqe hm
                        go_upto_region 21 with fail
                        go_region_law ((refine step_append_bytes rfl (.tmp 64) (.tmp 71) rfl B v acc (by simp [Act.eval]) (by first | exact HO.out.alloc _ | exact (HO.out.below (below_drewB _) (Nat.le_refl _)).alloc _ | exact (HO.out.alloc _).below (below_drewB _) (Nat.le_refl _)) ⟨W1.heap.size, 0, none⟩ 6 6 [92, 117, 48, 48, x1, x2] rfl (by simp [Act.eval]) (by first | exact bytes_new _ _ rfl | exact bytes_new_drew _ _ rfl) (by simp; omega) (by simp; omega) ?_; intro v9 w9 hO9 hb9 hi9))
                        all_goals
                          go_wp2
                          go_roundg (gk - n)
                          case rel => exact HREL.out v9 w9 (by rw [HE.out]; exact hO9) (hi9 _ _ _ (by first | exact HI.out.alloc _ | exact (HI.out.alloc _).below (below_drewB _))) (HW.out.trans (((by first | exact al1 _ _ | exact up (below_drewB _) (al1 _ _) | exact up (al1 _ _) (below_drewB _) : Below W1.heap.size W1 _)).mono HW.out.size |>.trans (hb9.mono hwB)))
                          case measure => omega
                      · have HE := Keep.mk (show escS c = Lib.encodeRune c by
                          unfold escS
                          rw [if_neg (by omega), if_neg h8, if_neg h9, if_neg h10, if_neg h12, if_neg h13, if_neg h32])
                        have b0 : ((c : Int) == 34) = false := by simp; omega
                        have b1 : ((c : Int) == 92) = false := by simp; omega
                        have b2 : ((c : Int) == 8) = false := by simp; omega
                        have b3 : ((c : Int) == 9) = false := by simp; omega
                        have b4 : ((c : Int) == 10) = false := by simp; omega
                        have b5 : ((c : Int) == 12) = false := by simp; omega
                        have b6 : ((c : Int) == 13) = false := by simp; omega
                        have hlt : ¬ (c : Int) < 32 := by omega
                        clear h34 h92 h8 h9 h10 h12 h13 h32
                        go_wp2_with fail
                        refine (append_rune B v acc c (by omega) W1 HO.out (by omega) hwB1).mono ?_
                        rintro r w9 ⟨v9, rfl, hO9, hb9, hi9⟩
                        go_wp2
                        go_roundg (gk - n)
                        case rel => exact HREL.out v9 w9 (by rw [HE.out]; exact hO9) (hi9 _ _ _ HI.out) (HW.out.trans (hb9.mono hwB))
                        case measure => omega
      · have hnx : ∀ ty, (Instr.next (.pointer (some ⟨B + 1, 0, none⟩)) true ty).run Tryz.prog wr = _ := fun ty => Lib.run_next_end_at (P := Tryz.prog) wr (B + 1) s pos ty HI.out hp
        have hdr : s.data.toList.drop pos = [] := List.drop_eq_nil_of_le (by rw [size_listU]; omega)
        have HE := Keep.mk (show acc = 34 :: bodyD s.data.toList by rw [← HA.out, hdr, bodyD_nil, List.append_nil])
        clear hdr
        go_wp2_with fail
        go_meet
        exact ⟨v, acc, rfl, by have := HI.out.lt; omega, HO, HE, HW⟩
  case rest =>
    clear HO0 HI0 HB0
    obtain ⟨v, acc, rfl, hwB1, HO, HE, HW⟩ := hcut
    have hal : acc.length ≤ 10000000000 := by rw [HE.out, List.length_cons]; omega
    go_wp2_with (at_builtin; refine wpList_append_bytes rfl (.tmp 73) (.tmp 74) rfl B v acc rfl (HO.out.alloc _) ⟨wc.heap.size, 0, none⟩ 1 1 [34] rfl rfl (bytes_new [34] _ rfl) (by simp; omega) (by simp; omega) ?_)
    intro v9 w9 hO9 hb9 _
    have HS := Keep.mk hO9.string
    have hs9 := HS.out
    go_wp2
    go_ret2
    exact ⟨_, rfl, by rw [ba_mk, HE.out]; rfl, HW.out.trans (((al1 _ _).mono HW.out.size).trans (hb9.mono hwB))⟩
end Go.Proofs.YtnkokhpadcgfbaaGreatDoor
namespace Th
open Go Go.Lib
def letterC (c : UInt8) : Bool := decide (97 ≤ c.toNat ∧ c.toNat ≤ 122)
def numC (c : UInt8) : Bool := decide (48 ≤ c.toNat ∧ c.toNat ≤ 57) || decide (c.toNat = 43) || decide (c.toNat = 45) || decide (c.toNat = 46) || decide (c.toNat = 101) || decide (c.toNat = 69)
def blankC (c : UInt8) : Bool := decide (c.toNat = 32) || decide (c.toNat = 9) || decide (c.toNat = 10) || decide (c.toNat = 13)
def signC (c : UInt8) : Bool := decide (c.toNat = 123) || decide (c.toNat = 125) || decide (c.toNat = 91) || decide (c.toNat = 93) || decide (c.toNat = 58) || decide (c.toNat = 44)
def runB (p : UInt8 → Bool) : List UInt8 → Nat
  | [] => 0
  | c :: r => if p c = true then runB p r + 1 else 0
def wordV (l : List UInt8) : Int × Nat × Int :=
  if l.take (runB letterC l) = [110, 117, 108, 108] then (0, runB letterC l, 0) else if l.take (runB letterC l) = [102, 97, 108, 115, 101] then (1, runB letterC l, 0)
  else if l.take (runB letterC l) = [116, 114, 117, 101] then (2, runB letterC l, 0) else (0, 0, 60)
structure Tk where
  sign : Nat
  k : Int
  m : Int
  x : Int
  s : ByteArray
  at_ : Nat
  to_ : Nat
  e : Int
def zeroJ : JV := .mk 0 0 0 ⟨#[]⟩ [] []
def oneT (l : List UInt8) (a : Nat) : Tk := match l with
  | [] => ⟨255, 0, 0, 0, ⟨#[]⟩, a, a, 0⟩
  | c :: r => if signC c = true then ⟨c.toNat, 0, 0, 0, ⟨#[]⟩, a, a + 1, 0⟩
    else if c.toNat = 34 then ⟨0, 4, 0, 0, ⟨(readQ (c :: r)).1.toArray⟩, a, a + (readQ (c :: r)).2.1, (readQ (c :: r)).2.2⟩
    else if letterC c = true then ⟨0, (wordV (c :: r)).1, 0, 0, ⟨#[]⟩, a, a + (wordV (c :: r)).2.1, (wordV (c :: r)).2.2⟩
    else if c.toNat = 45 ∨ (48 ≤ c.toNat ∧ c.toNat ≤ 57) then ⟨0, 3, (parseN ((c :: r).take (runB numC (c :: r)))).1.1, (parseN ((c :: r).take (runB numC (c :: r)))).1.2, ⟨#[]⟩, a, a + runB numC (c :: r), (parseN ((c :: r).take (runB numC (c :: r)))).2⟩
    else ⟨0, 0, 0, 0, ⟨#[]⟩, a, a, 60⟩
def nextT (l : List UInt8) (a : Nat) : Tk := oneT (l.drop (a + runB blankC (l.drop a))) (a + runB blankC (l.drop a))
end Th
