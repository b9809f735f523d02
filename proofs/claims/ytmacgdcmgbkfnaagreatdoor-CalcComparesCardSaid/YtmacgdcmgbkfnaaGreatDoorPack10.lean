/- Lemmas and contracts for the laws CalcCompares, part 10 of 33: Ref3, Cmp. Conditions: those that each lemma names. -/
import Derived.Test.YtmacgdcmgbkfnaaGreatDoorPack9
import Derived.Test.YtmacgdcmgbkfnaaGreatDoorPack5
import Derived.Test.YtmacgdcmgbkfnaaGreatDoorPack3
import Derived.Test.YtmacgdcmgbkfnaaGreatDoorPack6
import Derived.Test.YtmacgdcmgbkfnaaGreatDoorPack1
import Derived.Test.YtmacgdcmgbkfnaaGreatDoorPack8
import Derived.Outline
import Derived.Deep.CutBlock
import Derived.Deep.DeepCutAuto
import Derived.WalkLawsBesides
import Derived.IntWalk
import Derived.Deep.LoopGhost
import Derived.StillTail
namespace Go.Proofs.YtmacgdcmgbkfnaaGreatDoor
open Go Go.RowKit Go.Proofs Th
attribute [local go_sem] Above.cell
theorem box_new6 {w : World} {t : TypeId} (k m e : Int) (s : ByteArray) (A : Option Addr) (n c : Nat) (A' : Option Addr) (n' c' : Nat) : Box (w.alloc (.cells #[.int .i64 k, .int .i64 m, .int .i64 e, .string s, .slice A n c, .slice A' n' c'] t)) w.heap.size (cells6 k m e s A n c A' n' c') :=
  Box.new (cells6 k m e s A n c A' n' c') t rfl
end Go.Proofs.YtmacgdcmgbkfnaaGreatDoor
namespace Go.Proofs.YtmacgdcmgbkfnaaGreatDoor
open Go Go.RowKit Go.Proofs Th
attribute [local go_sem] Above.cell
def keyOk (ks : List ByteArray) (j : Nat) : Bool := Lib.validD (ks.getD j ⟨#[]⟩).data.toList && (decide (j = 0) || Op.bytesLess (ks.getD (j - 1) ⟨#[]⟩).data.toList (ks.getD j ⟨#[]⟩).data.toList)
theorem rise_iff : ∀ (ks : List ByteArray), riseK ks = true ↔ ∀ j, j < ks.length → keyOk ks j = true
  | [] => by simp [riseK]
  | [a] => by
    simp only [riseK, List.length_singleton]
    constructor
    · intro h j hj
      obtain rfl : j = 0 := by omega
      simp [keyOk, h]
    · intro h
      have := h 0 (by omega)
      simpa [keyOk] using this
  | a :: b :: r => by
    rw [show riseK (a :: b :: r) = (Lib.validD a.data.toList && Op.bytesLess a.data.toList b.data.toList && riseK (b :: r)) from rfl, Bool.and_eq_true, Bool.and_eq_true, rise_iff (b :: r)]
    constructor
    · rintro ⟨⟨h1, h2⟩, h3⟩ j hj
      cases j with
      | zero => simp [keyOk, h1]
      | succ j =>
        have h4 := h3 j (by simpa using hj)
        cases j with
        | zero =>
          simp only [keyOk, List.getD_cons_zero, decide_true, Bool.true_or, Bool.and_true] at h4
          simp [keyOk, h2, h4]
        | succ j => simpa [keyOk] using h4
    · intro h
      have h0 := h 0 (by simp)
      have h1 := h 1 (by simp)
      simp only [keyOk, List.getD_cons_zero, decide_true, Bool.true_or, Bool.and_true] at h0
      simp [keyOk] at h1
      refine ⟨⟨h0, h1.2⟩, fun j hj => ?_⟩
      cases j with
      | zero => simp [keyOk, h1.1]
      | succ j =>
        have h4 := h (j + 2) (by simpa using hj)
        simpa [keyOk] using h4
end Go.Proofs.YtmacgdcmgbkfnaaGreatDoor
namespace Go.Proofs.YtmacgdcmgbkfnaaGreatDoor
open Go Go.RowKit Go.Proofs Th
attribute [local go_sem] Above.cell
end Go.Proofs.YtmacgdcmgbkfnaaGreatDoor
namespace Go.Proofs.YtmacgdcmgbkfnaaGreatDoor
open Go Go.RowKit Go.Proofs Th
attribute [local go_sem] Above.cell
end Go.Proofs.YtmacgdcmgbkfnaaGreatDoor
namespace Go.Proofs.YtmacgdcmgbkfnaaGreatDoor
open Go Go.RowKit Go.Proofs Th
attribute [local go_sem] Above.cell
theorem keysN_take (ks : List ByteArray) (j : Nat) (h : j < ks.length) : keysN (ks.take (j + 1)) = keysN (ks.take j) + 1 + ks[j].size := by
  have : ∀ a b : List ByteArray, keysN (a ++ b) = keysN a + keysN b := by
    intro a b
    induction a with
    | nil => simp [keysN]
    | cons x a ih => simp only [List.cons_append, keysN, ih]; omega
  rw [List.take_succ_eq_append_getElem h, this]
  simp only [keysN]; omega
theorem sizeL_take (l : List JV) (j : Nat) (h : j < l.length) : sizeL (l.take (j + 1)) = sizeL (l.take j) + sizeJ l[j] := by
  have : ∀ a b : List JV, sizeL (a ++ b) = sizeL a + sizeL b := by
    intro a b
    induction a with
    | nil => simp [sizeL]
    | cons x a ih => simp only [List.cons_append, sizeL, ih]; omega
  rw [List.take_succ_eq_append_getElem h, this]
  simp only [sizeL]; omega
set_option maxRecDepth 100000 in
set_option maxHeartbeats 4000000 in
theorem ref3_Bulk : ∀ (n : Nat) (t : JV), countJ t ≤ n → ∀ (most : Nat), most ≤ 1000000 → ∀ (w : World) (cs : List Value), JAt w w.heap.size t cs →
    Calls Tryz.prog 15 #[.agg cs.toArray, .int .i64 most] w fun r w' => ∃ b : Nat, r = .returned (.int .i64 b) ∧ (b ≤ most → b = sizeJ t) ∧ b ≤ most + 140737488351252 ∧ Below w.heap.size w w' := by
  intro n
  induction n with
  | zero => intro t h; cases t; unfold countJ at h; omega
  | succ n ih =>
    intro t hn most hmost w cs hJ
    cases t with
    | mk k m e s l ks =>
      obtain ⟨A, c, A', c', rfl, hk, hm, he, hs, hK, hV⟩ := hJ.open
      show Calls _ _ #[.agg #[.int .i64 k, .int .i64 m, .int .i64 e, .string s, .slice A l.length c, .slice A' ks.length c'], _] w _
      have hcn := countL_get l
      have hcl : countL l ≤ n := by have : 1 + countL l ≤ n + 1 := hn; omega
      have HD := Keep.mk (show sizeJ (.mk k m e s l ks) = 1 + s.size + keysN ks + sizeL l from rfl)
      have hlc := hV.le
      have hcc := hV.cap
      have hkl := hK.le
      have hkc := hK.cap
      by_cases hkm : most < ks.length
      · have hkm2 : (most : Int) < ks.length := by omega
        go_enter Tryz.func15, Tryz.ntmps15
        go_wp2
        go_ret
        exact ⟨most + 1, by rfl, by omega, by omega, al1 _ _⟩
      · have hkm2 : ¬ (most : Int) < ks.length := by omega
        go_enter Tryz.func15, Tryz.ntmps15
        go_upto_block 0 with fail
        refine wp_world (fun W => Box W w.heap.size (cells6 k m e s A l.length c A' ks.length c') ∧ ValsAt W w.heap.size A c l ∧ StrsAt W w.heap.size A' c' ks ∧ Below w.heap.size w W) ⟨box_new6 .., hV.below (al1 _ _) (Nat.le_refl _), hK.below (al1 _ _) (Nat.le_refl _), al1 _ _⟩ ?_
        rintro W0 ⟨HX, HV, HK, HB⟩
        replace HX := Keep.mk HX
        replace HV := Keep.mk HV
        replace HK := Keep.mk HK
        replace HB := Keep.mk HB
        clear hJ hV hK
        have x5 := HX.out.cell 5 _ rfl
        have x4 := HX.out.cell 4 _ rfl
        have xl := HX.out.lt
        go_cut [5] (fun s5 wx => ∃ b : Nat, s5 = .int .i64 b ∧ b ≤ most + 140737488351252 ∧ Keep (b ≤ most → b = 1 + s.size + keysN ks) ∧ W0 = wx)
        case first =>
          go_wp2_with fail
          go_loop [5, 6] (fun b i => ∃ j b' : Nat, i = .int .i64 j ∧ j ≤ ks.length ∧ b = .int .i64 b' ∧ b' ≤ most + 140737488351252 ∧ Keep (b' = 1 + s.size + keysN (ks.take j))) (fun _ i => ks.length - (intOf i).toNat)
          case atStart => exact ⟨0, 1 + s.size, rfl, by omega, by go_num, by omega, ⟨by rw [List.take_zero]; simp [keysN]⟩⟩
          case round =>
            obtain ⟨j, b', rfl, hj, rfl, hb, HE⟩ := hrel
            by_cases hlt : j < ks.length
            · by_cases hbm : b' ≤ most
              · obtain ⟨g, o, rfl, hg, hc⟩ := HK.out.at_ (by omega)
                have cj := hc j hlt
                have hsz := HK.out.small _ (List.getElem_mem hlt)
                have HS := Keep.mk (keysN_take ks j hlt)
                clear hc
                generalize ks[j] = kb at *
                go_wp2
                go_round
                case rel => exact ⟨j + 1, b' + 1 + kb.size, by go_num, by omega, by go_num, by omega, ⟨by rw [HS.out, HE.out]; omega⟩⟩
                case measure => simp [intOf]; omega
              · have hbm2 : ¬ (b' : Int) ≤ most := by omega
                go_wp2_with fail
                go_meet
                exact ⟨b', rfl, hb, ⟨fun h => absurd h hbm⟩, rfl⟩
            · go_wp2_with fail
              go_meet
              exact ⟨b', rfl, hb, ⟨fun _ => by have := HE.out; rw [List.take_of_length_le (by omega)] at this; exact this⟩, rfl⟩
        case rest =>
          obtain ⟨b0, rfl, hb0, HE0, rfl⟩ := hcut
          clear x4 x5 xl
          go_wp2_with fail
          go_loopg [5, 7] l.length (fun gk b i wr => ∃ j b' : Nat, j + gk = l.length ∧ i = .int .i64 j ∧ b = .int .i64 b' ∧ b' ≤ most + 140737488351252 ∧ Keep (b' ≤ most → b' = 1 + s.size + keysN ks + sizeL (l.take j)) ∧ Keep (Box wr w.heap.size (cells6 k m e s A l.length c A' ks.length c')) ∧ Keep (ValsAt wr w.heap.size A c l) ∧ Keep (Below w.heap.size w wr))
          case atStart => exact ⟨0, b0, by omega, rfl, rfl, hb0, ⟨fun h => by rw [List.take_zero]; have := HE0.out h; simp [sizeL]; exact this⟩, HX, HV, HB⟩
          case round =>
            clear HX HV HB HE0 hb0
            obtain ⟨j, b', hj, rfl, rfl, hb, HE, HX, HV, HB⟩ := hrel
            have x4 := HX.out.cell 4 _ rfl
            have xl := HX.out.lt
            by_cases hlt : j < l.length
            · by_cases hbm : b' ≤ most
              · have hgk : gk ≠ 0 := by omega
                have HS := Keep.mk (sizeL_take l j hlt)
                have hcj := hcn j hlt
                obtain ⟨g, o, k1, m1, e1, s1, A1, n1, c1, A2, n2, c2, rfl, hg, hJj, y0, y1, y2, y3, y4, y5⟩ := HV.out.elem j hlt
                obtain ⟨rm, hrm⟩ : ∃ x : Nat, (most : Int) - b' = x := ⟨most - b', by omega⟩
                have hrm2 : rm + b' = most := by omega
                have HC := Keep.mk (ih l[j] (by omega) rm (by omega) wr _ (hJj.more HB.out.size))
                clear hJj
                generalize sizeJ l[j] = z at *
                go_wp2_with fail
                refine (HC.out).mono ?_
                rintro r w1 ⟨b1, rfl, hb1, hb2, hbl⟩
                have HB1 := Keep.mk hb1
                clear hb1
                go_wp2
                go_roundg (gk - 1)
                case rel => exact ⟨j + 1, b' + b1, by omega, by go_num, by go_num, by omega, ⟨fun h => by have h1 := HE.out hbm; have h2 := HB1.out (by omega); rw [HS.out, h2]; omega⟩, ⟨HX.out.below hbl xl⟩, ⟨HV.out.below hbl HB.out.size⟩, ⟨up HB.out hbl⟩⟩
                case measure => omega
              · have hbm2 : ¬ (b' : Int) ≤ most := by omega
                go_wp2
                go_ret
                exact ⟨b', rfl, fun h => absurd h hbm, hb, HB.out⟩
            · go_wp2
              go_ret
              exact ⟨b', rfl, fun h => by rw [HD.out, HE.out h, List.take_of_length_le (by omega)], hb, HB.out⟩
end Go.Proofs.YtmacgdcmgbkfnaaGreatDoor
namespace Go.Proofs.YtmacgdcmgbkfnaaGreatDoor
open Go Go.RowKit Go.Proofs Th
attribute [local go_sem] Above.cell
def cmpS (m1 e1 m2 e2 : Int) : Int :=
  if m1.sign ≠ m2.sign ∨ m1.sign = 0 then cmp3 m1.sign m2.sign
  else if (nd m1 : Int) + e1 ≠ (nd m2 : Int) + e2 then m1.sign * cmp3 ((nd m1 : Int) + e1) ((nd m2 : Int) + e2)
  else m1.sign * Lib.compareBytes (Lib.decDigits m1.natAbs) (Lib.decDigits m2.natAbs)
def cmpN (m1 e1 m2 e2 : Int) : Int × Int := if right m1 e1 && right m2 e2 then (cmpS m1 e1 m2 e2, 0) else (0, 10)
def cmpRes (p : Int × Int) : Value := .tuple #[.int .i64 p.1, .int .i64 p.2]
theorem cmp3_bd (a b : Int) : -1 ≤ cmp3 a b ∧ cmp3 a b ≤ 1 := by unfold cmp3; split <;> (try split) <;> omega
theorem compareBytes_bd : ∀ a b : List UInt8, -1 ≤ Lib.compareBytes a b ∧ Lib.compareBytes a b ≤ 1 := by
  intro a
  induction a with
  | nil => intro b; cases b <;> simp [Lib.compareBytes]
  | cons x a ih =>
    intro b
    cases b with
    | nil => simp [Lib.compareBytes]
    | cons y b =>
      simp only [Lib.compareBytes]
      split
      · omega
      · split
        · omega
        · exact ih b
theorem sign_bd (a : Int) : a.sign = -1 ∨ a.sign = 0 ∨ a.sign = 1 := by
  rcases Int.lt_trichotomy a 0 with h | h | h
  · left; exact Int.sign_eq_neg_one_of_neg h
  · right; left; subst h; rfl
  · right; right; exact Int.sign_eq_one_of_pos h
theorem wrap_sign_mul {a c : Int} (h0 : -1 ≤ c) (h1 : c ≤ 1) : IntKind.i64.wrap (a.sign * c) = a.sign * c := by
  apply IntWalk.i64_in
  rcases sign_bd a with h | h | h <;> rw [h] <;> omega
theorem wrap_sign_cmp {a p q : Int} : IntKind.i64.wrap (a.sign * cmp3 p q) = a.sign * cmp3 p q := wrap_sign_mul (cmp3_bd p q).1 (cmp3_bd p q).2
def cmpT (s t : ByteArray) : Int := Lib.compareBytes s.data.toList t.data.toList
theorem wrap_sign_cmpT {a : Int} {s t : ByteArray} : IntKind.i64.wrap (a.sign * cmpT s t) = a.sign * cmpT s t := wrap_sign_mul (compareBytes_bd _ _).1 (compareBytes_bd _ _).2
theorem compareT (a b : ByteArray) (w : World) : Calls Tryz.prog 66 #[.string a, .string b] w fun r w' => r = .returned (.int .i64 (cmpT a b)) ∧ Below w.heap.size w w' := compareStr a b w
attribute [local go_sem] wrap_sign_cmp wrap_sign_cmpT
theorem ret_cmp {a b c : Int} (h : a = c) : Ending.returned (.tuple #[.int .i64 a, .int .i64 b]) = .returned (cmpRes (c, b)) := by rw [h]; rfl
theorem cmp_wrong1 (m1 e1 m2 e2 : Int) (hm1 : I64 m1) (_hm2 : I64 m2) (h1 : right m1 e1 = false) (w : World) (hg : GlobP w) : Calls Tryz.prog 65 #[.agg #[.int .i64 m1, .int .i64 e1], .agg #[.int .i64 m2, .int .i64 e2]] w fun r w' =>
    r = .returned (cmpRes (0, 10)) ∧ Below w.heap.size w w' := by
  go_enter Tryz.func65, Tryz.ntmps65
  go_wp2_with fail
  refine (num_Right m1 e1 hm1.lo hm1.hi _ (hg.below (al2 _ _ _)).weak).mono ?_
  rw [h1]
  rintro r w1 ⟨rfl, hb1⟩
  obtain ⟨hc, hf⟩ := bcell hb1
  go_wp2
  go_ret2
  exact ⟨rfl, up (al2 _ _ _) hb1⟩
theorem cmp_wrong2 (m1 e1 m2 e2 : Int) (hm1 : I64 m1) (hm2 : I64 m2) (h1 : right m1 e1 = true) (h2 : right m2 e2 = false) (w : World) (hg : GlobP w) : Calls Tryz.prog 65 #[.agg #[.int .i64 m1, .int .i64 e1], .agg #[.int .i64 m2, .int .i64 e2]] w fun r w' =>
    r = .returned (cmpRes (0, 10)) ∧ Below w.heap.size w w' := by
  go_enter Tryz.func65, Tryz.ntmps65
  go_wp2_with fail
  refine (num_Right m1 e1 hm1.lo hm1.hi _ (hg.below (al2 _ _ _)).weak).mono ?_
  rw [h1]
  rintro r w1 ⟨rfl, hb1⟩
  obtain ⟨hc, hf⟩ := bcell hb1
  go_wp2_with fail
  refine (num_Right m2 e2 hm2.lo hm2.hi _ (hg.below (up (al2 _ _ _) hb1))).mono ?_
  rw [h2]
  rintro r w2 ⟨rfl, hb2'⟩
  have hb2 := up hb1 hb2'
  clear hc hf
  obtain ⟨hc, hf⟩ := bcell hb2
  go_wp2
  go_ret2
  exact ⟨rfl, up (al2 _ _ _) hb2⟩
set_option maxRecDepth 100000 in
theorem cmp_signs (m1 e1 m2 e2 : Int) (hm1 : I64 m1) (hm2 : I64 m2) (h1 : right m1 e1 = true) (h2 : right m2 e2 = true) (hs : (m1.sign != m2.sign) = true ∨ ((m1.sign != m2.sign) = false ∧ (m1.sign == 0) = true)) (w : World) (hg : GlobP w) : Calls Tryz.prog 65 #[.agg #[.int .i64 m1, .int .i64 e1], .agg #[.int .i64 m2, .int .i64 e2]] w fun r w' =>
    r = .returned (cmpRes (cmp3 m1.sign m2.sign, 0)) ∧ Below w.heap.size w w' := by
  rcases hs with hs | ⟨hs, hs2⟩
  all_goals
    go_enter Tryz.func65, Tryz.ntmps65
    go_wp2_with fail
    refine (num_Right m1 e1 hm1.lo hm1.hi _ (hg.below (al2 _ _ _)).weak).mono ?_
    rw [h1]
    rintro r w1 ⟨rfl, hb1⟩
    obtain ⟨hc, hf⟩ := bcell hb1
    go_wp2_with fail
    refine (num_Right m2 e2 hm2.lo hm2.hi _ (hg.below (up (al2 _ _ _) hb1))).mono ?_
    rw [h2]
    rintro r w2 ⟨rfl, hb2'⟩
    have hb2 := up hb1 hb2'
    clear hc hf
    obtain ⟨hc, hf⟩ := bcell hb2
    go_wp2_with fail
    refine wp_region_from hb2 (by kernel_rfl) (by kernel_rfl) ?_
    repeat (go_big_quiet_step ((go_at_call 83; exact calls_above (num_sign _ _ _))))
    refine wpQuiet_nil ?_
    rintro _ ⟨x3, rfl⟩
    have hb3 := x3.property
    clear hc hf
    obtain ⟨hc, hf⟩ := bcell hb3
    go_wp2_with fail
    refine (num_compare m1.sign m2.sign _).mono ?_
    rintro r w4 ⟨rfl, hb4'⟩
    have hb4 := up hb3 hb4'
    clear hc hf
    obtain ⟨hc, hf⟩ := bcell hb4
    go_wp2
    go_ret2
    exact ⟨rfl, up (al2 _ _ _) hb4⟩
set_option maxRecDepth 100000 in
theorem cmp_far (m1 e1 m2 e2 : Int) (hm1 : I64 m1) (hm2 : I64 m2) (h1 : right m1 e1 = true) (h2 : right m2 e2 = true) (hs : (m1.sign != m2.sign) = false) (hs2 : (m1.sign == 0) = false) (hpq : ((nd m1 : Int) + e1 != (nd m2 : Int) + e2) = true) (w : World) (hg : GlobP w) : Calls Tryz.prog 65 #[.agg #[.int .i64 m1, .int .i64 e1], .agg #[.int .i64 m2, .int .i64 e2]] w fun r w' =>
    r = .returned (cmpRes (m1.sign * cmp3 ((nd m1 : Int) + e1) ((nd m2 : Int) + e2), 0)) ∧ Below w.heap.size w w' := by
  obtain ⟨A, S, hA1, hA2, hA3, hA4, hA5⟩ := fmt_size m1 e1 hm1 h1
  obtain ⟨B, T, hB1, hB2, hB3, hB4, hB5⟩ := fmt_size m2 e2 hm2 h2
  have hx1 := right_exp h1
  have hx2 := right_exp h2
  have hS : S.size ≤ 18 := by rw [hA3]; exact nd_le h1
  have hT : T.size ≤ 18 := by rw [hB3]; exact nd_le h2
  rw [← hA3, ← hB3] at hpq
  have HA4 := Keep.mk hA4
  have HA5 := Keep.mk hA5
  have HB4 := Keep.mk hB4
  have HB5 := Keep.mk hB5
  have HA3 := Keep.mk hA3
  have HB3 := Keep.mk hB3
  have HC := Keep.mk (show cmpT S T = Lib.compareBytes (Lib.decDigits m1.natAbs) (Lib.decDigits m2.natAbs) by rw [hA2, hB2]; rfl)
  clear hA1 hA2 hA3 hA4 hA5 hB1 hB2 hB3 hB4 hB5
  have hgx : ∀ y : Above ((w.alloc (.cells #[.int .i64 m1, .int .i64 e1] 23)).alloc (.cells #[.int .i64 m2, .int .i64 e2] 23)), GlobP y.val := fun y => hg.below (up (al2 _ _ _) y.property)
  go_enter Tryz.func65, Tryz.ntmps65
  go_wp2_with fail
  refine (num_Right m1 e1 hm1.lo hm1.hi _ (hg.below (al2 _ _ _)).weak).mono ?_
  rw [h1]
  rintro r w1 ⟨rfl, hb1⟩
  obtain ⟨hc, hf⟩ := bcell hb1
  go_wp2_with fail
  refine (num_Right m2 e2 hm2.lo hm2.hi _ (hg.below (up (al2 _ _ _) hb1))).mono ?_
  rw [h2]
  rintro r w2 ⟨rfl, hb2'⟩
  have hb2 := up hb1 hb2'
  clear hc hf
  obtain ⟨hc, hf⟩ := bcell hb2
  go_wp2_with fail
  refine wp_region_from hb2 (by kernel_rfl) (by kernel_rfl) ?_
  repeat (go_big_quiet_step ((go_at_call 83; exact calls_above (num_sign _ _ _))))
  refine wpQuiet_nil ?_
  rintro _ ⟨x3, rfl⟩
  have hb3 := x3.property
  clear hc hf
  obtain ⟨hc, hf⟩ := bcell hb3
  go_wp2_with fail
  refine wp_region_from hb3 (by kernel_rfl) (by kernel_rfl) ?_
  repeat (go_big_quiet_step (first | (go_at_call 56; first | (with_reducible exact calls_above (HA4.out _)) | (with_reducible exact calls_above (HB4.out _))) | (go_at_call 92; first | (with_reducible exact calls_above (HA5.out _ (hgx _))) | (with_reducible exact calls_above (HB5.out _ (hgx _))))))
  refine wpQuiet_nil ?_
  rintro _ ⟨x4, rfl⟩
  have hb4 := x4.property
  clear hc hf
  obtain ⟨hc, hf⟩ := bcell hb4
  go_wp2_with fail
  refine (num_compare _ _ _).mono ?_
  rintro r w5 ⟨rfl, hb5'⟩
  have hb5 := up hb4 hb5'
  clear hc hf
  obtain ⟨hc, hf⟩ := bcell hb5
  go_wp2
  go_ret2
  exact ⟨ret_cmp (by rw [HA3.out, HB3.out]), up (al2 _ _ _) hb5⟩
set_option maxRecDepth 100000 in
theorem cmp_near (m1 e1 m2 e2 : Int) (hm1 : I64 m1) (hm2 : I64 m2) (h1 : right m1 e1 = true) (h2 : right m2 e2 = true) (hs : (m1.sign != m2.sign) = false) (hs2 : (m1.sign == 0) = false) (hpq : ((nd m1 : Int) + e1 != (nd m2 : Int) + e2) = false) (w : World) (hg : GlobP w) : Calls Tryz.prog 65 #[.agg #[.int .i64 m1, .int .i64 e1], .agg #[.int .i64 m2, .int .i64 e2]] w fun r w' =>
    r = .returned (cmpRes (m1.sign * Lib.compareBytes (Lib.decDigits m1.natAbs) (Lib.decDigits m2.natAbs), 0)) ∧ Below w.heap.size w w' := by
  obtain ⟨A, S, hA1, hA2, hA3, hA4, hA5⟩ := fmt_size m1 e1 hm1 h1
  obtain ⟨B, T, hB1, hB2, hB3, hB4, hB5⟩ := fmt_size m2 e2 hm2 h2
  have hx1 := right_exp h1
  have hx2 := right_exp h2
  have hS : S.size ≤ 18 := by rw [hA3]; exact nd_le h1
  have hT : T.size ≤ 18 := by rw [hB3]; exact nd_le h2
  rw [← hA3, ← hB3] at hpq
  have HA4 := Keep.mk hA4
  have HA5 := Keep.mk hA5
  have HB4 := Keep.mk hB4
  have HB5 := Keep.mk hB5
  have HA3 := Keep.mk hA3
  have HB3 := Keep.mk hB3
  have HC := Keep.mk (show cmpT S T = Lib.compareBytes (Lib.decDigits m1.natAbs) (Lib.decDigits m2.natAbs) by rw [hA2, hB2]; rfl)
  clear hA1 hA2 hA3 hA4 hA5 hB1 hB2 hB3 hB4 hB5
  have hgx : ∀ y : Above ((w.alloc (.cells #[.int .i64 m1, .int .i64 e1] 23)).alloc (.cells #[.int .i64 m2, .int .i64 e2] 23)), GlobP y.val := fun y => hg.below (up (al2 _ _ _) y.property)
  go_enter Tryz.func65, Tryz.ntmps65
  go_wp2_with fail
  refine (num_Right m1 e1 hm1.lo hm1.hi _ (hg.below (al2 _ _ _)).weak).mono ?_
  rw [h1]
  rintro r w1 ⟨rfl, hb1⟩
  obtain ⟨hc, hf⟩ := bcell hb1
  go_wp2_with fail
  refine (num_Right m2 e2 hm2.lo hm2.hi _ (hg.below (up (al2 _ _ _) hb1))).mono ?_
  rw [h2]
  rintro r w2 ⟨rfl, hb2'⟩
  have hb2 := up hb1 hb2'
  clear hc hf
  obtain ⟨hc, hf⟩ := bcell hb2
  go_wp2_with fail
  refine wp_region_from hb2 (by kernel_rfl) (by kernel_rfl) ?_
  repeat (go_big_quiet_step ((go_at_call 83; exact calls_above (num_sign _ _ _))))
  refine wpQuiet_nil ?_
  rintro _ ⟨x3, rfl⟩
  have hb3 := x3.property
  clear hc hf
  obtain ⟨hc, hf⟩ := bcell hb3
  go_wp2_with fail
  refine wp_region_from hb3 (by kernel_rfl) (by kernel_rfl) ?_
  repeat (go_big_quiet_step (first | (go_at_call 56; first | (with_reducible exact calls_above (HA4.out _)) | (with_reducible exact calls_above (HB4.out _))) | (go_at_call 92; first | (with_reducible exact calls_above (HA5.out _ (hgx _))) | (with_reducible exact calls_above (HB5.out _ (hgx _))))))
  refine wpQuiet_nil ?_
  rintro _ ⟨x4, rfl⟩
  have hb4 := x4.property
  clear hc hf
  obtain ⟨hc, hf⟩ := bcell hb4
  go_wp2_with fail
  refine wp_region_from hb4 (by kernel_rfl) (by kernel_rfl) ?_
  repeat (go_big_quiet_step (first | (go_at_call 66; exact calls_above (compareT _ _ _)) | (go_at_call 56; first | (with_reducible exact calls_above (HA4.out _)) | (with_reducible exact calls_above (HB4.out _))) | (go_at_call 92; first | (with_reducible exact calls_above (HA5.out _ (hgx _))) | (with_reducible exact calls_above (HB5.out _ (hgx _))))))
  refine wpQuiet_nil ?_
  rintro _ ⟨x5, rfl⟩
  have hb5 := x5.property
  clear hc hf
  obtain ⟨hc, hf⟩ := bcell hb5
  go_wp2
  go_ret2
  exact ⟨ret_cmp (by rw [HC.out]), up (al2 _ _ _) hb5⟩
theorem num_cmp (m1 e1 m2 e2 : Int) (hm1 : I64 m1) (hm2 : I64 m2) (w : World) (hg : GlobP w) : Calls Tryz.prog 65 #[.agg #[.int .i64 m1, .int .i64 e1], .agg #[.int .i64 m2, .int .i64 e2]] w fun r w' =>
    r = .returned (cmpRes (cmpN m1 e1 m2 e2)) ∧ Below w.heap.size w w' := by
  unfold cmpN
  cases h1 : right m1 e1
  · exact cmp_wrong1 m1 e1 m2 e2 hm1 hm2 h1 w hg
  · cases h2 : right m2 e2
    · exact cmp_wrong2 m1 e1 m2 e2 hm1 hm2 h1 h2 w hg
    · simp only [Bool.and_self, ↓reduceIte]
      unfold cmpS
      by_cases hs : m1.sign ≠ m2.sign ∨ m1.sign = 0
      · rw [if_pos hs]
        refine cmp_signs m1 e1 m2 e2 hm1 hm2 h1 h2 ?_ w hg
        by_cases hq : m1.sign = m2.sign
        · right; exact ⟨by simpa using hq, by simpa using hs.resolve_left (fun h => h hq)⟩
        · left; simpa using hq
      · rw [if_neg hs]
        have hs1 : (m1.sign != m2.sign) = false := by
          have : m1.sign = m2.sign := Classical.byContradiction fun h => hs (Or.inl h)
          simpa using this
        have hs2 : (m1.sign == 0) = false := by
          have : ¬ m1.sign = 0 := fun h => hs (Or.inr h)
          simpa using this
        by_cases hpq : (nd m1 : Int) + e1 ≠ (nd m2 : Int) + e2
        · rw [if_pos hpq]; exact cmp_far m1 e1 m2 e2 hm1 hm2 h1 h2 hs1 hs2 (by simpa using hpq) w hg
        · rw [if_neg hpq]; exact cmp_near m1 e1 m2 e2 hm1 hm2 h1 h2 hs1 hs2 (by simpa using hpq) w hg
end Go.Proofs.YtmacgdcmgbkfnaaGreatDoor
