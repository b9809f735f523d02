/- Lemmas and contracts for the laws CalcLengths, part 13 of 37: Ref3. Conditions: those that each lemma names. -/
import Derived.Test.YtnkokhpadcgfbaaGreatDoorPack10
import Derived.Test.YtnkokhpadcgfbaaGreatDoorPack5
import Derived.Test.YtnkokhpadcgfbaaGreatDoorPack3
import Derived.Test.YtnkokhpadcgfbaaGreatDoorPack6
import Derived.Test.YtnkokhpadcgfbaaGreatDoorPack8
import Derived.Test.YtnkokhpadcgfbaaGreatDoorPack1
import Derived.Test.YtnkokhpadcgfbaaGreatDoorPack9
import Derived.Outline
import Derived.Deep.CutBlock
import Derived.Deep.DeepCutAuto
import Derived.WalkLawsBesides
import Derived.IntWalk
import Derived.Deep.LoopGhost
namespace Go.Proofs.YtnkokhpadcgfbaaGreatDoor
open Go Go.RowKit Go.Proofs Th
attribute [local go_sem] Above.cell
theorem depthL_take (l : List JV) (k : Nat) (h : k < l.length) : depthL (l.take (k + 1)) = max (depthL (l.take k)) (depthJ l[k]) := by
  have : ∀ a b : List JV, depthL (a ++ b) = max (depthL a) (depthL b) := by
    intro a b
    induction a with
    | nil => simp [depthL]
    | cons x a ih => simp only [List.cons_append, depthL, ih]; omega
  rw [List.take_succ_eq_append_getElem h, this]
  simp [depthL]
theorem depthL_take_le (l : List JV) (k : Nat) : depthL (l.take k) ≤ depthL l := by
  have : ∀ a b : List JV, depthL (a ++ b) = max (depthL a) (depthL b) := by
    intro a b
    induction a with
    | nil => simp [depthL]
    | cons x a ih => simp only [List.cons_append, depthL, ih]; omega
  have h := this (l.take k) (l.drop k)
  rw [List.take_append_drop] at h
  omega
theorem box_new6 {w : World} {t : TypeId} (k m e : Int) (s : ByteArray) (A : Option Addr) (n c : Nat) (A' : Option Addr) (n' c' : Nat) : Box (w.alloc (.cells #[.int .i64 k, .int .i64 m, .int .i64 e, .string s, .slice A n c, .slice A' n' c'] t)) w.heap.size (cells6 k m e s A n c A' n' c') :=
  Box.new (cells6 k m e s A n c A' n' c') t rfl
set_option maxRecDepth 100000 in
theorem ref3_DepthD : ∀ (n : Nat) (t : JV), countJ t ≤ n → depthJ t ≤ 1000000 → ∀ (w : World) (cs : List Value), JAt w w.heap.size t cs →
    Calls Tryz.prog 91 #[.agg cs.toArray] w fun r w' => r = .returned (.int .i64 (depthJ t)) ∧ Below w.heap.size w w' := by
  intro n
  induction n with
  | zero => intro t h; cases t; unfold countJ at h; omega
  | succ n ih =>
    intro t hn hn1 w cs hJ
    cases t with
    | mk k m e s l ks =>
      obtain ⟨A, c, A', c', rfl, hk, hm, he, hs, hK, hV⟩ := hJ.open
      show Calls _ _ #[.agg #[.int .i64 k, .int .i64 m, .int .i64 e, .string s, .slice A l.length c, .slice A' ks.length c']] w _
      have hcn := countL_get l
      have hcl : countL l ≤ n := by have : 1 + countL l ≤ n + 1 := hn; omega
      have HD := Keep.mk (show depthJ (.mk k m e s l ks) = 1 + depthL l from rfl)
      have hdl : depthL l ≤ 1000000 := by have := HD.out; omega
      clear hn1
      have hlc := hV.le
      have hcc := hV.cap
      go_enter Tryz.func91, Tryz.ntmps91
      go_upto_block 0 with fail
      refine wp_world (fun W => Box W w.heap.size (cells6 k m e s A l.length c A' ks.length c') ∧ ValsAt W w.heap.size A c l ∧ Below w.heap.size w W) ⟨box_new6 .., hV.below (al1 _ _) (Nat.le_refl _), al1 _ _⟩ ?_
      rintro W0 ⟨HX, HV, HB⟩
      replace HX := Keep.mk HX
      replace HV := Keep.mk HV
      replace HB := Keep.mk HB
      clear hJ hV
      go_wp2_with fail
      go_loopg [3, 4] l.length (fun gk d i wr => ∃ (j : Nat), j + gk = l.length ∧ i = .int .i64 j ∧ d = .int .i64 (depthL (l.take j)) ∧ Keep (Box wr w.heap.size (cells6 k m e s A l.length c A' ks.length c')) ∧ Keep (ValsAt wr w.heap.size A c l) ∧ Keep (Below w.heap.size w wr))
      case atStart => exact ⟨0, by omega, rfl, by rw [List.take_zero]; rfl, HX, HV, HB⟩
      case round =>
        clear HX HV HB
        obtain ⟨j, hj, rfl, rfl, HX, HV, HB⟩ := hrel
        have x4 := HX.out.cell 4 _ rfl
        have xl := HX.out.lt
        by_cases hlt : j < l.length
        · have hgk : gk ≠ 0 := by omega
          have HS := Keep.mk (depthL_take l j hlt)
          have hdj : depthJ l[j] ≤ 1000000 := by have h1 := depthL_take l j hlt; have h2 := depthL_take_le l (j + 1); omega
          have hcj := hcn j hlt
          obtain ⟨g, o, k1, m1, e1, s1, A1, n1, c1, A2, n2, c2, rfl, hg, hJj, y0, y1, y2, y3, y4, y5⟩ := HV.out.elem j hlt
          have HC := Keep.mk (ih l[j] (by omega) hdj wr _ (hJj.more HB.out.size))
          have hd2 : depthL (l.take j) ≤ 1000000 := by
            have := depthL_take_le l j; omega
          clear hJj
          obtain ⟨dj, hdd⟩ : ∃ x, depthJ l[j] = x := ⟨_, rfl⟩
          rw [hdd] at HC HS hdj
          clear hdd
          generalize depthL (l.take j) = d0 at *
          by_cases hgt : d0 < dj
          · have HE := Keep.mk (show depthL (l.take (j + 1)) = dj by rw [HS.out]; omega)
            clear HS
            go_wp2_with fail
            refine (HC.out).mono ?_
            rintro r w1 ⟨rfl, hb1⟩
            go_wp2
            go_roundg (gk - 1)
            case rel => exact ⟨j + 1, by omega, by go_num, by rw [HE.out], ⟨HX.out.below hb1 xl⟩, ⟨HV.out.below hb1 HB.out.size⟩, ⟨up HB.out hb1⟩⟩
            case measure => omega
          · have HE := Keep.mk (show depthL (l.take (j + 1)) = d0 by rw [HS.out]; omega)
            clear HS
            go_wp2_with fail
            refine (HC.out).mono ?_
            rintro r w1 ⟨rfl, hb1⟩
            go_wp2
            go_roundg (gk - 1)
            case rel => exact ⟨j + 1, by omega, by go_num, by rw [HE.out], ⟨HX.out.below hb1 xl⟩, ⟨HV.out.below hb1 HB.out.size⟩, ⟨up HB.out hb1⟩⟩
            case measure => omega
        · have HE := Keep.mk (show depthL (l.take j) = depthL l by rw [List.take_of_length_le (by omega)])
          rw [HE.out]
          go_wp2
          go_ret
          exact ⟨by rw [HD.out]; rfl, HB.out⟩
end Go.Proofs.YtnkokhpadcgfbaaGreatDoor
namespace Go.Proofs.YtnkokhpadcgfbaaGreatDoor
open Go Go.RowKit Go.Proofs Th
attribute [local go_sem] Above.cell
def keyOk (ks : List ByteArray) (j : Nat) : Bool := Lib.validD (ks.getD j ⟨#[]⟩).data.toList && (decide (j = 0) || Op.bytesLess (ks.getD (j - 1) ⟨#[]⟩).data.toList (ks.getD j ⟨#[]⟩).data.toList)
theorem rise_iff : ∀ (ks : List ByteArray), riseK ks = true ↔ ∀ j, j < ks.length → keyOk ks j = true
  | [] => by simp [riseK]
  | [a] => by
    simp only [riseK, List.length_singleton]
    constructor
    · intro h j hj
      obtain rfl : j = 0 := by omega
      simp [keyOk, h]
    · intro h
      have := h 0 (by omega)
      simpa [keyOk] using this
  | a :: b :: r => by
    rw [show riseK (a :: b :: r) = (Lib.validD a.data.toList && Op.bytesLess a.data.toList b.data.toList && riseK (b :: r)) from rfl, Bool.and_eq_true, Bool.and_eq_true, rise_iff (b :: r)]
    constructor
    · rintro ⟨⟨h1, h2⟩, h3⟩ j hj
      cases j with
      | zero => simp [keyOk, h1]
      | succ j =>
        have h4 := h3 j (by simpa using hj)
        cases j with
        | zero =>
          simp only [keyOk, List.getD_cons_zero, decide_true, Bool.true_or, Bool.and_true] at h4
          simp [keyOk, h2, h4]
        | succ j => simpa [keyOk] using h4
    · intro h
      have h0 := h 0 (by simp)
      have h1 := h 1 (by simp)
      simp only [keyOk, List.getD_cons_zero, decide_true, Bool.true_or, Bool.and_true] at h0
      simp [keyOk] at h1
      refine ⟨⟨h0, h1.2⟩, fun j hj => ?_⟩
      cases j with
      | zero => simp [keyOk, h1.1]
      | succ j =>
        have h4 := h (j + 2) (by simpa using hj)
        simpa [keyOk] using h4
end Go.Proofs.YtnkokhpadcgfbaaGreatDoor
namespace Go.Proofs.YtnkokhpadcgfbaaGreatDoor
open Go Go.RowKit Go.Proofs Th
attribute [local go_sem] Above.cell
end Go.Proofs.YtnkokhpadcgfbaaGreatDoor
namespace Go.Proofs.YtnkokhpadcgfbaaGreatDoor
open Go Go.RowKit Go.Proofs Th
attribute [local go_sem] Above.cell
end Go.Proofs.YtnkokhpadcgfbaaGreatDoor
namespace Go.Proofs.YtnkokhpadcgfbaaGreatDoor
open Go Go.RowKit Go.Proofs Th
attribute [local go_sem] Above.cell
theorem keysN_take (ks : List ByteArray) (j : Nat) (h : j < ks.length) : keysN (ks.take (j + 1)) = keysN (ks.take j) + 1 + ks[j].size := by
  have : ∀ a b : List ByteArray, keysN (a ++ b) = keysN a + keysN b := by
    intro a b
    induction a with
    | nil => simp [keysN]
    | cons x a ih => simp only [List.cons_append, keysN, ih]; omega
  rw [List.take_succ_eq_append_getElem h, this]
  simp only [keysN]; omega
theorem sizeL_take (l : List JV) (j : Nat) (h : j < l.length) : sizeL (l.take (j + 1)) = sizeL (l.take j) + sizeJ l[j] := by
  have : ∀ a b : List JV, sizeL (a ++ b) = sizeL a + sizeL b := by
    intro a b
    induction a with
    | nil => simp [sizeL]
    | cons x a ih => simp only [List.cons_append, sizeL, ih]; omega
  rw [List.take_succ_eq_append_getElem h, this]
  simp only [sizeL]; omega
set_option maxRecDepth 100000 in
set_option maxHeartbeats 4000000 in
theorem ref3_Bulk : ∀ (n : Nat) (t : JV), countJ t ≤ n → ∀ (most : Nat), most ≤ 1000000 → ∀ (w : World) (cs : List Value), JAt w w.heap.size t cs →
    Calls Tryz.prog 18 #[.agg cs.toArray, .int .i64 most] w fun r w' => ∃ b : Nat, r = .returned (.int .i64 b) ∧ (b ≤ most → b = sizeJ t) ∧ b ≤ most + 140737488351252 ∧ Below w.heap.size w w' := by
  intro n
  induction n with
  | zero => intro t h; cases t; unfold countJ at h; omega
  | succ n ih =>
    intro t hn most hmost w cs hJ
    cases t with
    | mk k m e s l ks =>
      obtain ⟨A, c, A', c', rfl, hk, hm, he, hs, hK, hV⟩ := hJ.open
      show Calls _ _ #[.agg #[.int .i64 k, .int .i64 m, .int .i64 e, .string s, .slice A l.length c, .slice A' ks.length c'], _] w _
      have hcn := countL_get l
      have hcl : countL l ≤ n := by have : 1 + countL l ≤ n + 1 := hn; omega
      have HD := Keep.mk (show sizeJ (.mk k m e s l ks) = 1 + s.size + keysN ks + sizeL l from rfl)
      have hlc := hV.le
      have hcc := hV.cap
      have hkl := hK.le
      have hkc := hK.cap
      by_cases hkm : most < ks.length
      · have hkm2 : (most : Int) < ks.length := by omega
        go_enter Tryz.func18, Tryz.ntmps18
        go_wp2
        go_ret
        exact ⟨most + 1, by rfl, by omega, by omega, al1 _ _⟩
      · have hkm2 : ¬ (most : Int) < ks.length := by omega
        go_enter Tryz.func18, Tryz.ntmps18
        go_upto_block 0 with fail
        refine wp_world (fun W => Box W w.heap.size (cells6 k m e s A l.length c A' ks.length c') ∧ ValsAt W w.heap.size A c l ∧ StrsAt W w.heap.size A' c' ks ∧ Below w.heap.size w W) ⟨box_new6 .., hV.below (al1 _ _) (Nat.le_refl _), hK.below (al1 _ _) (Nat.le_refl _), al1 _ _⟩ ?_
        rintro W0 ⟨HX, HV, HK, HB⟩
        replace HX := Keep.mk HX
        replace HV := Keep.mk HV
        replace HK := Keep.mk HK
        replace HB := Keep.mk HB
        clear hJ hV hK
        have x5 := HX.out.cell 5 _ rfl
        have x4 := HX.out.cell 4 _ rfl
        have xl := HX.out.lt
        go_cut [5] (fun s5 wx => ∃ b : Nat, s5 = .int .i64 b ∧ b ≤ most + 140737488351252 ∧ Keep (b ≤ most → b = 1 + s.size + keysN ks) ∧ W0 = wx)
        case first =>
          go_wp2_with fail
          go_loop [5, 6] (fun b i => ∃ j b' : Nat, i = .int .i64 j ∧ j ≤ ks.length ∧ b = .int .i64 b' ∧ b' ≤ most + 140737488351252 ∧ Keep (b' = 1 + s.size + keysN (ks.take j))) (fun _ i => ks.length - (intOf i).toNat)
          case atStart => exact ⟨0, 1 + s.size, rfl, by omega, by go_num, by omega, ⟨by rw [List.take_zero]; simp [keysN]⟩⟩
          case round =>
            obtain ⟨j, b', rfl, hj, rfl, hb, HE⟩ := hrel
            by_cases hlt : j < ks.length
            · by_cases hbm : b' ≤ most
              · obtain ⟨g, o, rfl, hg, hc⟩ := HK.out.at_ (by omega)
                have cj := hc j hlt
                have hsz := HK.out.small _ (List.getElem_mem hlt)
                have HS := Keep.mk (keysN_take ks j hlt)
                clear hc
                generalize ks[j] = kb at *
                go_wp2
                go_round
                case rel => exact ⟨j + 1, b' + 1 + kb.size, by go_num, by omega, by go_num, by omega, ⟨by rw [HS.out, HE.out]; omega⟩⟩
                case measure => simp [intOf]; omega
              · have hbm2 : ¬ (b' : Int) ≤ most := by omega
                go_wp2_with fail
                go_meet
                exact ⟨b', rfl, hb, ⟨fun h => absurd h hbm⟩, rfl⟩
            · go_wp2_with fail
              go_meet
              exact ⟨b', rfl, hb, ⟨fun _ => by have := HE.out; rw [List.take_of_length_le (by omega)] at this; exact this⟩, rfl⟩
        case rest =>
          obtain ⟨b0, rfl, hb0, HE0, rfl⟩ := hcut
          clear x4 x5 xl
          go_wp2_with fail
          go_loopg [5, 7] l.length (fun gk b i wr => ∃ j b' : Nat, j + gk = l.length ∧ i = .int .i64 j ∧ b = .int .i64 b' ∧ b' ≤ most + 140737488351252 ∧ Keep (b' ≤ most → b' = 1 + s.size + keysN ks + sizeL (l.take j)) ∧ Keep (Box wr w.heap.size (cells6 k m e s A l.length c A' ks.length c')) ∧ Keep (ValsAt wr w.heap.size A c l) ∧ Keep (Below w.heap.size w wr))
          case atStart => exact ⟨0, b0, by omega, rfl, rfl, hb0, ⟨fun h => by rw [List.take_zero]; have := HE0.out h; simp [sizeL]; exact this⟩, HX, HV, HB⟩
          case round =>
            clear HX HV HB HE0 hb0
            obtain ⟨j, b', hj, rfl, rfl, hb, HE, HX, HV, HB⟩ := hrel
            have x4 := HX.out.cell 4 _ rfl
            have xl := HX.out.lt
            by_cases hlt : j < l.length
            · by_cases hbm : b' ≤ most
              · have hgk : gk ≠ 0 := by omega
                have HS := Keep.mk (sizeL_take l j hlt)
                have hcj := hcn j hlt
                obtain ⟨g, o, k1, m1, e1, s1, A1, n1, c1, A2, n2, c2, rfl, hg, hJj, y0, y1, y2, y3, y4, y5⟩ := HV.out.elem j hlt
                obtain ⟨rm, hrm⟩ : ∃ x : Nat, (most : Int) - b' = x := ⟨most - b', by omega⟩
                have hrm2 : rm + b' = most := by omega
                have HC := Keep.mk (ih l[j] (by omega) rm (by omega) wr _ (hJj.more HB.out.size))
                clear hJj
                generalize sizeJ l[j] = z at *
                go_wp2_with fail
                refine (HC.out).mono ?_
                rintro r w1 ⟨b1, rfl, hb1, hb2, hbl⟩
                have HB1 := Keep.mk hb1
                clear hb1
                go_wp2
                go_roundg (gk - 1)
                case rel => exact ⟨j + 1, b' + b1, by omega, by go_num, by go_num, by omega, ⟨fun h => by have h1 := HE.out hbm; have h2 := HB1.out (by omega); rw [HS.out, h2]; omega⟩, ⟨HX.out.below hbl xl⟩, ⟨HV.out.below hbl HB.out.size⟩, ⟨up HB.out hbl⟩⟩
                case measure => omega
              · have hbm2 : ¬ (b' : Int) ≤ most := by omega
                go_wp2
                go_ret
                exact ⟨b', rfl, fun h => absurd h hbm, hb, HB.out⟩
            · go_wp2
              go_ret
              exact ⟨b', rfl, fun h => by rw [HD.out, HE.out h, List.take_of_length_le (by omega)], hb, HB.out⟩
end Go.Proofs.YtnkokhpadcgfbaaGreatDoor
