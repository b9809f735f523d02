/- Lemmas and contracts for the laws CalcLengths, part 37 of 37: LawLen. Conditions: those that each lemma names. -/
import Derived.Test.YtnkokhpadcgfbaaGreatDoorPack36
import Derived.Test.YtnkokhpadcgfbaaGreatDoorPack33
namespace Go.Proofs.YtnkokhpadcgfbaaGreatDoor
open Go Go.RowKit Go.Proofs Th
attribute [local go_sem] Above.cell
structure HJ6 (W : World) (g : Nat) (t : JV) (cs : List Value) : Prop where
  x : Box W g cs
  j : JAt W W.heap.size t cs
theorem HJ6.up {W W' : World} {g : Nat} {t : JV} {cs : List Value} (h : HJ6 W g t cs) (hb : Below W.heap.size W W') : HJ6 W' g t cs := ⟨h.x.below hb h.x.lt, h.j.up hb⟩
structure TriB (w W : World) (xs ys zs : List Value) : Prop where
  x : Box W w.heap.size xs
  y : Box W (w.heap.size + 1) ys
  z : Box W (w.heap.size + 2) zs
  b : Below w.heap.size w W
theorem TriB.new (w : World) (k3 m3 e3 : Int) (s3 : ByteArray) (A3 : Option Addr) (n3 c3 : Nat) (B3 : Option Addr) (p3 d3 : Nat) (k4 m4 e4 : Int) (s4 : ByteArray) (A4 : Option Addr) (n4 c4 : Nat) (B4 : Option Addr) (p4 d4 : Nat) (k5 m5 e5 : Int) (s5 : ByteArray) (A5 : Option Addr) (n5 c5 : Nat) (B5 : Option Addr) (p5 d5 : Nat) (t t2 t3 : TypeId) :
    TriB w (((w.alloc (.cells #[.int .i64 k3, .int .i64 m3, .int .i64 e3, .string s3, .slice A3 n3 c3, .slice B3 p3 d3] t)).alloc (.cells #[.int .i64 k4, .int .i64 m4, .int .i64 e4, .string s4, .slice A4 n4 c4, .slice B4 p4 d4] t2)).alloc (.cells #[.int .i64 k5, .int .i64 m5, .int .i64 e5, .string s5, .slice A5 n5 c5, .slice B5 p5 d5] t3)) (cells6 k3 m3 e3 s3 A3 n3 c3 B3 p3 d3) (cells6 k4 m4 e4 s4 A4 n4 c4 B4 p4 d4) (cells6 k5 m5 e5 s5 A5 n5 c5 B5 p5 d5) :=
  ⟨((Box.new (cells6 k3 m3 e3 s3 A3 n3 c3 B3 p3 d3) t rfl).alloc _).alloc _, (Box.new (cells6 k4 m4 e4 s4 A4 n4 c4 B4 p4 d4) t2 (by simp)).alloc _, Box.new (cells6 k5 m5 e5 s5 A5 n5 c5 B5 p5 d5) t3 (by simp), al3 _ _ _ _⟩
theorem row3v (w : World) (a b d : JV) (ca cb cd : List Value) (ha : ca.length = 6) (hb : cb.length = 6) (hJa : JAt w w.heap.size a ca) (hJb : JAt w w.heap.size b cb) (hJd : JAt w w.heap.size d cd) (t : TypeId) :
    ValsAt (w.alloc (.cells (ca ++ (cb ++ cd)).toArray t)) (w.alloc (.cells (ca ++ (cb ++ cd)).toArray t)).heap.size (some ⟨w.heap.size, 0, none⟩) 3 [a, b, d] := by
  have hB := Box.new (w := w) (ca ++ (cb ++ cd)) t rfl
  refine ⟨by simp, by simp, by decide, fun j hj => ?_⟩
  match j, hj with
  | 0, _ => exact ⟨_, 0, _, rfl, by simp, fun i v hv => (by
      have hi : i < 6 := by rw [← ha]; exact (List.getElem?_eq_some_iff.1 hv).1
      rw [show 0 + 0 * 6 + i = i by omega]
      exact hB.cell i v (by rw [List.getElem?_append_left (by omega)]; exact hv)), hJa.up (al1 _ _)⟩
  | 1, _ => exact ⟨_, 0, _, rfl, by simp, fun i v hv => (by
      have hi : i < 6 := by rw [← hb]; exact (List.getElem?_eq_some_iff.1 hv).1
      rw [show 0 + 1 * 6 + i = 6 + i by omega]
      exact hB.cell (6 + i) v (by rw [List.getElem?_append_right (by omega), ha, Nat.add_sub_cancel_left, List.getElem?_append_left (by omega)]; exact hv)), hJb.up (al1 _ _)⟩
  | 2, _ => exact ⟨_, 0, _, rfl, by simp, fun i v hv => (by
      rw [show 0 + 2 * 6 + i = 12 + i by omega]
      exact hB.cell (12 + i) v (by rw [List.getElem?_append_right (by omega), ha, show 12 + i - 6 = 6 + i by omega, List.getElem?_append_right (by omega), hb, Nat.add_sub_cancel_left]; exact hv)), hJd.up (al1 _ _)⟩
set_option maxRecDepth 100000 in
set_option maxHeartbeats 8000000 in
theorem law_lengths (a b c : JV) (w : World) (cs cs2 cs3 : List Value) (hG : GlobW w) (hM : GlobM w) (hJ : JAt w w.heap.size a cs) (hJ2 : JAt w w.heap.size b cs2) (hJ3 : JAt w w.heap.size c cs3) :
    Calls Tryz.prog 6 #[.agg cs.toArray, .agg cs2.toArray, .agg cs3.toArray] w fun r w' => r = .returned (.bool true) ∧ Below w.heap.size w w' := by
  obtain ⟨k3, m3, e3, s3, A3, n3, c3, B3, p3, d3, rfl⟩ := hJ.inn.cells
  have K3 := Keep.mk (JAt.parts hJ).1
  obtain ⟨k4, m4, e4, s4, A4, n4, c4, B4, p4, d4, rfl⟩ := hJ2.inn.cells
  have K4 := Keep.mk (JAt.parts hJ2).1
  obtain ⟨k5, m5, e5, s5, A5, n5, c5, B5, p5, d5, rfl⟩ := hJ3.inn.cells
  have K5 := Keep.mk (JAt.parts hJ3).1
  have HG := Keep.mk (fun W (hb : Below w.heap.size w W) => hG.below hb)
  have HM := Keep.mk (fun W (hb : Below w.heap.size w W) => hM.below hb)
  have J3 := Keep.mk hJ
  have J4 := Keep.mk hJ2
  have J5 := Keep.mk hJ3
  have HT := Keep.mk (TriB.new w k3 m3 e3 s3 A3 n3 c3 B3 p3 d3 k4 m4 e4 s4 A4 n4 c4 B4 p4 d4 k5 m5 e5 s5 A5 n5 c5 B5 p5 d5 27 27 27)
  clear hG hM hJ hJ2 hJ3
  show Calls _ _ #[.agg #[.int .i64 k3, .int .i64 m3, .int .i64 e3, .string s3, .slice A3 n3 c3, .slice B3 p3 d3], .agg #[.int .i64 k4, .int .i64 m4, .int .i64 e4, .string s4, .slice A4 n4 c4, .slice B4 p4 d4], .agg #[.int .i64 k5, .int .i64 m5, .int .i64 e5, .string s5, .slice A5 n5 c5, .slice B5 p5 d5]] w _
  go_enter Tryz.func6, Tryz.ntmps6
  go_upto_region 1 with fail
  refine wp_world (fun W => TriB w W (cells6 k3 m3 e3 s3 A3 n3 c3 B3 p3 d3) (cells6 k4 m4 e4 s4 A4 n4 c4 B4 p4 d4) (cells6 k5 m5 e5 s5 A5 n5 c5 B5 p5 d5)) HT.out ?_
  clear HT
  rintro V0 HT
  have HB := Keep.mk HT.b
  have H3 := Keep.mk (HJ6.mk HT.x (J3.out.up HT.b))
  have H4 := Keep.mk (HJ6.mk HT.y (J4.out.up HT.b))
  have H5 := Keep.mk (HJ6.mk HT.z (J5.out.up HT.b))
  clear HT J3 J4 J5
  go_wp2_with fail
  refine (law12_works V0 (HG.out V0 HB.out) (HM.out V0 HB.out)).mono ?_
  rintro r V1 ⟨rfl, hq⟩
  replace H3 := Keep.mk (H3.out.up hq)
  replace H4 := Keep.mk (H4.out.up hq)
  replace H5 := Keep.mk (H5.out.up hq)
  replace HB := Keep.mk (up HB.out hq)
  clear hq HM
  go_upto_region 3 with fail
  go_cut [56] (fun v56 wx => ∃ z : Bool, v56 = .bool z ∧ Keep (z = false → 1 + sizeL [a, b, c] ≤ 1000 ∧ k3 = k4 ∧ k4 = k5 ∧ (k3 = 4 ∨ k3 = 5)) ∧ Keep (HJ6 wx w.heap.size a (cells6 k3 m3 e3 s3 A3 n3 c3 B3 p3 d3)) ∧ Keep (HJ6 wx (w.heap.size + 1) b (cells6 k4 m4 e4 s4 A4 n4 c4 B4 p4 d4)) ∧ Keep (HJ6 wx (w.heap.size + 2) c (cells6 k5 m5 e5 s5 A5 n5 c5 B5 p5 d5)) ∧ Keep (Below w.heap.size w wx))
  case first =>
    have x3_0 := H3.out.x.cell 0 _ rfl
    have x3_1 := H3.out.x.cell 1 _ rfl
    have x3_2 := H3.out.x.cell 2 _ rfl
    have x3_3 := H3.out.x.cell 3 _ rfl
    have x3_4 := H3.out.x.cell 4 _ rfl
    have x3_5 := H3.out.x.cell 5 _ rfl
    have xl3 := H3.out.x.lt
    have x4_0 := H4.out.x.cell 0 _ rfl
    have x4_1 := H4.out.x.cell 1 _ rfl
    have x4_2 := H4.out.x.cell 2 _ rfl
    have x4_3 := H4.out.x.cell 3 _ rfl
    have x4_4 := H4.out.x.cell 4 _ rfl
    have x4_5 := H4.out.x.cell 5 _ rfl
    have xl4 := H4.out.x.lt
    have x5_0 := H5.out.x.cell 0 _ rfl
    have x5_1 := H5.out.x.cell 1 _ rfl
    have x5_2 := H5.out.x.cell 2 _ rfl
    have x5_3 := H5.out.x.cell 3 _ rfl
    have x5_4 := H5.out.x.cell 4 _ rfl
    have x5_5 := H5.out.x.cell 5 _ rfl
    have xl5 := H5.out.x.lt
    have HV := Keep.mk (row3v V1 a b c (cells6 k3 m3 e3 s3 A3 n3 c3 B3 p3 d3) (cells6 k4 m4 e4 s4 A4 n4 c4 B4 p4 d4) (cells6 k5 m5 e5 s5 A5 n5 c5 B5 p5 d5) rfl rfl H3.out.j H4.out.j H5.out.j 27)
    go_wp2_with fail
    refine (law12_great [a, b, c] _ 3 _ HV.out).mono ?_
    rintro r V2 ⟨g, rfl, hg, hb⟩
    have hq := up (al1 V1 (.cells ((cells6 k3 m3 e3 s3 A3 n3 c3 B3 p3 d3) ++ ((cells6 k4 m4 e4 s4 A4 n4 c4 B4 p4 d4) ++ (cells6 k5 m5 e5 s5 A5 n5 c5 B5 p5 d5))).toArray 27)) hb
    replace H3 := Keep.mk (H3.out.up hq)
    replace H4 := Keep.mk (H4.out.up hq)
    replace H5 := Keep.mk (H5.out.up hq)
    replace HB := Keep.mk (up HB.out hq)
    replace hg := Keep.mk hg
    clear hq hb HV x3_0 x3_1 x3_2 x3_3 x3_4 x3_5 xl3 x4_0 x4_1 x4_2 x4_3 x4_4 x4_5 xl4 x5_0 x5_1 x5_2 x5_3 x5_4 x5_5 xl5
    have x3_0 := H3.out.x.cell 0 _ rfl
    have x3_1 := H3.out.x.cell 1 _ rfl
    have x3_2 := H3.out.x.cell 2 _ rfl
    have x3_3 := H3.out.x.cell 3 _ rfl
    have x3_4 := H3.out.x.cell 4 _ rfl
    have x3_5 := H3.out.x.cell 5 _ rfl
    have xl3 := H3.out.x.lt
    have x4_0 := H4.out.x.cell 0 _ rfl
    have x4_1 := H4.out.x.cell 1 _ rfl
    have x4_2 := H4.out.x.cell 2 _ rfl
    have x4_3 := H4.out.x.cell 3 _ rfl
    have x4_4 := H4.out.x.cell 4 _ rfl
    have x4_5 := H4.out.x.cell 5 _ rfl
    have xl4 := H4.out.x.lt
    have x5_0 := H5.out.x.cell 0 _ rfl
    have x5_1 := H5.out.x.cell 1 _ rfl
    have x5_2 := H5.out.x.cell 2 _ rfl
    have x5_3 := H5.out.x.cell 3 _ rfl
    have x5_4 := H5.out.x.cell 4 _ rfl
    have x5_5 := H5.out.x.cell 5 _ rfl
    have xl5 := H5.out.x.lt
    cases g
    case true =>
      go_wp2_with fail
      go_meet
      exact ⟨true, rfl, ⟨fun h => Bool.noConfusion h⟩, H3, H4, H5, HB⟩
    by_cases h1 : k3 = k4
    case neg =>
      go_wp2_with fail
      go_meet
      exact ⟨true, rfl, ⟨fun h => Bool.noConfusion h⟩, H3, H4, H5, HB⟩
    subst h1
    by_cases h2 : k3 = k5
    case neg =>
      go_wp2_with fail
      go_meet
      exact ⟨true, rfl, ⟨fun h => Bool.noConfusion h⟩, H3, H4, H5, HB⟩
    subst h2
    by_cases h3 : k3 = 4
    case pos =>
      subst h3
      go_wp2_with fail
      go_meet
      exact ⟨false, rfl, ⟨by simpa using hg.out (by simp)⟩, H3, H4, H5, HB⟩
    by_cases h4 : k3 = 5
    case pos =>
      subst h4
      go_wp2_with fail
      go_meet
      exact ⟨false, rfl, ⟨by simpa using hg.out (by simp)⟩, H3, H4, H5, HB⟩
    go_wp2_with fail
    go_meet
    exact ⟨true, by simp [h3, h4], ⟨fun h => Bool.noConfusion h⟩, H3, H4, H5, HB⟩
  case rest =>
  clear H3 H4 H5 HB
  obtain ⟨z, rfl, HZZ, H3, H4, H5, HB⟩ := hcut
  cases z
  case true =>
    go_wp2
    go_ret
    exact ⟨rfl, HB.out⟩
  obtain ⟨hg, h1, h2, h3⟩ := HZZ.out rfl
  clear HZZ
  subst h1
  subst h2
  have HKS := Keep.mk h3
  have HK := Keep.mk (show a.k = 4 ∨ a.k = 5 by rw [K3.out]; exact HKS.out)
  have HAB := Keep.mk (show a.k = b.k by rw [K3.out, K4.out])
  have HBC := Keep.mk (show b.k = c.k by rw [K4.out, K5.out])
  have HZ := Keep.mk (show sizeJ a + sizeJ b + sizeJ c ≤ 999 by
    have h : 1 + (sizeJ a + (sizeJ b + (sizeJ c + 0))) ≤ 1000 := hg
    omega)
  clear hg K4 K5
  have HN := Keep.mk (plus_null a (by have := HK.out; omega))
  have Q1 := Keep.mk (show ∀ (W : World) (c2 : List Value), Below w.heap.size w W → JAt W W.heap.size a c2 → Calls Tryz.prog 10 #[.string ⟨#[43]⟩, .agg c2.toArray, .agg (cells6 0 0 0 ⟨#[]⟩ none 0 0 none 0 0).toArray] W fun r w' => OpPost W r w' (plusJ zeroJ a) from fun W c2 hb hj => by
    rw [← HN.out.1]
    exact oper_plus a zeroJ W _ _ (HG.out W hb) hj (zero_at _ _) (by have := HZ.out; have : sizeJ zeroJ = 1 := rfl; omega) (Or.inr (Or.inl rfl)))
  have Q2 := Keep.mk (show ∀ (W : World) (c2 : List Value), Below w.heap.size w W → JAt W W.heap.size a c2 → Calls Tryz.prog 10 #[.string ⟨#[43]⟩, .agg (cells6 0 0 0 ⟨#[]⟩ none 0 0 none 0 0).toArray, .agg c2.toArray] W fun r w' => OpPost W r w' (plusJ zeroJ a) from fun W c2 hb hj => by
    exact oper_plus zeroJ a W _ _ (HG.out W hb) (zero_at _ _) hj (by have := HZ.out; have : sizeJ zeroJ = 1 := rfl; omega) (Or.inl rfl))
  have Q3 := Keep.mk (show ∀ (W : World) (c2 c3 : List Value), Below w.heap.size w W → JAt W W.heap.size a c2 → JAt W W.heap.size b c3 → Calls Tryz.prog 10 #[.string ⟨#[43]⟩, .agg c2.toArray, .agg c3.toArray] W fun r w' => OpPost W r w' (plusJ a b) from fun W c2 c3 hb hj hj2 =>
    oper_plus a b W _ _ (HG.out W hb) hj hj2 (by have := HZ.out; omega) (Or.inr (Or.inr (by have := HK.out; have := HAB.out; omega))))
  have Q4 := Keep.mk (show ∀ (W : World) (c2 c3 : List Value), Below w.heap.size w W → JAt W W.heap.size b c2 → JAt W W.heap.size c c3 → Calls Tryz.prog 10 #[.string ⟨#[43]⟩, .agg c2.toArray, .agg c3.toArray] W fun r w' => OpPost W r w' (plusJ b c) from fun W c2 c3 hb hj hj2 =>
    oper_plus b c W _ _ (HG.out W hb) hj hj2 (by have := HZ.out; omega) (Or.inr (Or.inr (by have := HK.out; have := HAB.out; have := HBC.out; omega))))
  have F1 := Keep.mk (plus_form HAB.out HK.out)
  have F2 := Keep.mk (plus_form HBC.out (by rw [← HAB.out]; exact HK.out))
  have Q5 := Keep.mk (show ∀ (W : World) (c2 c3 : List Value), Below w.heap.size w W → JAt W W.heap.size (plusJ a b).1 c2 → JAt W W.heap.size c c3 → Calls Tryz.prog 10 #[.string ⟨#[43]⟩, .agg c2.toArray, .agg c3.toArray] W fun r w' => OpPost W r w' (plusJ (plusJ a b).1 c) from fun W c2 c3 hb hj hj2 =>
    oper_plus _ c W _ _ (HG.out W hb) hj hj2 (by have := HZ.out; have := F1.out.2; omega) (by have := HK.out; have := HAB.out; have := HBC.out; have := F1.out.1; omega))
  have Q6 := Keep.mk (show ∀ (W : World) (c2 c3 : List Value), Below w.heap.size w W → JAt W W.heap.size a c2 → JAt W W.heap.size (plusJ b c).1 c3 → Calls Tryz.prog 10 #[.string ⟨#[43]⟩, .agg c2.toArray, .agg c3.toArray] W fun r w' => OpPost W r w' (plusJ a (plusJ b c).1) from fun W c2 c3 hb hj hj2 =>
    oper_plus a _ W _ _ (HG.out W hb) hj hj2 (by have := HZ.out; have := F2.out.2; omega) (by have := HK.out; have := HAB.out; have := HBC.out; have := F2.out.1; omega))
  have PL := Keep.mk (plus_law HAB.out HBC.out HK.out)
  have PB := Keep.mk (show (plusJ zeroJ a).2 ≠ 0 → (plusJ zeroJ a).1 = zeroJ from plus_bad)
  have PN := Keep.mk HN.out.2
  have PZ := Keep.mk (show sizeJ (plusJ a b).1 ≤ 10000 by have := HZ.out; have := F1.out.2; omega)
  clear HN
  obtain ⟨⟨t7, f7⟩, h7⟩ : ∃ p, plusJ zeroJ a = p := ⟨_, rfl⟩
  rw [h7] at Q1 Q2 PB PN
  obtain ⟨⟨t11, f11⟩, h11⟩ : ∃ p, plusJ a b = p := ⟨_, rfl⟩
  rw [h11] at Q3 Q5 PL F1 PZ
  obtain ⟨⟨t12, f12⟩, h12⟩ : ∃ p, plusJ b c = p := ⟨_, rfl⟩
  rw [h12] at Q4 Q6 PL F2
  obtain ⟨⟨t14, f14⟩, h14⟩ : ∃ p, plusJ t11 c = p := ⟨_, rfl⟩
  replace Q5 := Keep.mk (show ∀ (W : World) (c2 c3 : List Value), Below w.heap.size w W → JAt W W.heap.size t11 c2 → JAt W W.heap.size c c3 → Calls Tryz.prog 10 #[.string ⟨#[43]⟩, .agg c2.toArray, .agg c3.toArray] W fun r w' => OpPost W r w' (t14, f14) from h14 ▸ Q5.out)
  obtain ⟨⟨t16, f16⟩, h16⟩ : ∃ p, plusJ a t12 = p := ⟨_, rfl⟩
  replace Q6 := Keep.mk (show ∀ (W : World) (c2 c3 : List Value), Below w.heap.size w W → JAt W W.heap.size a c2 → JAt W W.heap.size t12 c3 → Calls Tryz.prog 10 #[.string ⟨#[43]⟩, .agg c2.toArray, .agg c3.toArray] W fun r w' => OpPost W r w' (t16, f16) from h16 ▸ Q6.out)
  replace PL := Keep.mk (show f11 = 0 → f12 = 0 → f14 = 0 → f16 = 0 → t14 = t16 ∧ lenN t11 = lenN a + lenN b ∧ rightJ a = 0 ∧ rightJ b = 0 ∧ rightJ t11 = 0 ∧ t11.k = a.k by
    have h := PL.out
    dsimp only at h
    rw [h14, h16] at h
    exact h)
  clear h7 h11 h12 h14 h16 F1 F2 h3 HKS
  go_upto_region 5 with fail
  have x3_0 := H3.out.x.cell 0 _ rfl
  have x3_1 := H3.out.x.cell 1 _ rfl
  have x3_2 := H3.out.x.cell 2 _ rfl
  have x3_3 := H3.out.x.cell 3 _ rfl
  have x3_4 := H3.out.x.cell 4 _ rfl
  have x3_5 := H3.out.x.cell 5 _ rfl
  have xl3 := H3.out.x.lt
  go_wp2_with fail
  refine (Q1.out wc _ HB.out H3.out.j).mono ?_
  rintro r W7 ⟨cs', hr, hj, hb⟩
  obtain ⟨k7, m7, e7, s7, A7, n7, c7, B7, p7, d7, rfl⟩ := hj.cells
  have hr : r = .returned (.tuple #[.agg #[.int .i64 k7, .int .i64 m7, .int .i64 e7, .string s7, .slice A7 n7 c7, .slice B7 p7 d7], .int .i64 f7]) := hr
  subst hr
  have HJ := Keep.mk hj.jat
  clear hj x3_0 x3_1 x3_2 x3_3 x3_4 x3_5 xl3
  go_upto_region 6 with fail
  refine wp_world (fun W => Below wc.heap.size wc W ∧ HJ6 W W7.heap.size t7 (cells6 k7 m7 e7 s7 A7 n7 c7 B7 p7 d7)) ⟨up hb (al1 _ _), Box.new (cells6 k7 m7 e7 s7 A7 n7 c7 B7 p7 d7) _ rfl, HJ.out.up (al1 _ _)⟩ ?_
  clear hb HJ
  rintro V7 ⟨hq, H7⟩
  replace H7 := Keep.mk H7
  replace H3 := Keep.mk (H3.out.up hq)
  replace H4 := Keep.mk (H4.out.up hq)
  replace H5 := Keep.mk (H5.out.up hq)
  replace HB := Keep.mk (up HB.out hq)
  clear hq
  have x3_0 := H3.out.x.cell 0 _ rfl
  have x3_1 := H3.out.x.cell 1 _ rfl
  have x3_2 := H3.out.x.cell 2 _ rfl
  have x3_3 := H3.out.x.cell 3 _ rfl
  have x3_4 := H3.out.x.cell 4 _ rfl
  have x3_5 := H3.out.x.cell 5 _ rfl
  have xl3 := H3.out.x.lt
  go_wp2_with fail
  refine (Q2.out V7 _ HB.out H3.out.j).mono ?_
  rintro r W9 ⟨cs', hr, hj, hb⟩
  obtain ⟨k9, m9, e9, s9, A9, n9, c9, B9, p9, d9, rfl⟩ := hj.cells
  have hr : r = .returned (.tuple #[.agg #[.int .i64 k9, .int .i64 m9, .int .i64 e9, .string s9, .slice A9 n9 c9, .slice B9 p9 d9], .int .i64 f7]) := hr
  subst hr
  have HJ := Keep.mk hj.jat
  clear hj x3_0 x3_1 x3_2 x3_3 x3_4 x3_5 xl3
  go_upto_region 7 with fail
  refine wp_world (fun W => Below V7.heap.size V7 W ∧ HJ6 W W9.heap.size t7 (cells6 k9 m9 e9 s9 A9 n9 c9 B9 p9 d9)) ⟨up hb (al1 _ _), Box.new (cells6 k9 m9 e9 s9 A9 n9 c9 B9 p9 d9) _ rfl, HJ.out.up (al1 _ _)⟩ ?_
  clear hb HJ
  rintro V9 ⟨hq, H9⟩
  replace H9 := Keep.mk H9
  replace H3 := Keep.mk (H3.out.up hq)
  replace H4 := Keep.mk (H4.out.up hq)
  replace H5 := Keep.mk (H5.out.up hq)
  replace H7 := Keep.mk (H7.out.up hq)
  replace HB := Keep.mk (up HB.out hq)
  clear hq
  by_cases z7 : f7 = 0
  case neg =>
    have b7 : (f7 == 0) = false := by simpa using z7
    obtain rfl : t7 = zeroJ := PB.out z7
    have x7_0 := H7.out.x.cell 0 _ rfl
    have x7_1 := H7.out.x.cell 1 _ rfl
    have x7_2 := H7.out.x.cell 2 _ rfl
    have x7_3 := H7.out.x.cell 3 _ rfl
    have x7_4 := H7.out.x.cell 4 _ rfl
    have x7_5 := H7.out.x.cell 5 _ rfl
    have xl7 := H7.out.x.lt
    go_wp2_with fail
    refine (ref3_Same _ zeroJ zeroJ (Nat.le_refl _) V9 _ _ H7.out.j (zero_at _ _)).mono ?_
    rw [sameJ_self]
    rintro r W ⟨rfl, hq⟩
    replace HB := Keep.mk (up HB.out hq)
    clear hq x7_0 x7_1 x7_2 x7_3 x7_4 x7_5 xl7
    go_wp2
    go_ret
    exact ⟨rfl, HB.out⟩
  subst z7
  obtain rfl : t7 = a := PN.out rfl
  clear PB PN Q1 Q2
  have x7_0 := H7.out.x.cell 0 _ rfl
  have x7_1 := H7.out.x.cell 1 _ rfl
  have x7_2 := H7.out.x.cell 2 _ rfl
  have x7_3 := H7.out.x.cell 3 _ rfl
  have x7_4 := H7.out.x.cell 4 _ rfl
  have x7_5 := H7.out.x.cell 5 _ rfl
  have xl7 := H7.out.x.lt
  have x3_0 := H3.out.x.cell 0 _ rfl
  have x3_1 := H3.out.x.cell 1 _ rfl
  have x3_2 := H3.out.x.cell 2 _ rfl
  have x3_3 := H3.out.x.cell 3 _ rfl
  have x3_4 := H3.out.x.cell 4 _ rfl
  have x3_5 := H3.out.x.cell 5 _ rfl
  have xl3 := H3.out.x.lt
  go_wp2_with fail
  refine (ref3_Same _ t7 t7 (Nat.le_refl _) V9 _ _ H7.out.j H3.out.j).mono ?_
  rw [sameJ_self]
  rintro r V10 ⟨rfl, hq⟩
  replace HB := Keep.mk (up HB.out hq)
  replace H3 := Keep.mk (H3.out.up hq)
  replace H4 := Keep.mk (H4.out.up hq)
  replace H5 := Keep.mk (H5.out.up hq)
  replace H9 := Keep.mk (H9.out.up hq)
  clear hq x7_0 x7_1 x7_2 x7_3 x7_4 x7_5 xl7 x3_0 x3_1 x3_2 x3_3 x3_4 x3_5 xl3 H7
  have x9_0 := H9.out.x.cell 0 _ rfl
  have x9_1 := H9.out.x.cell 1 _ rfl
  have x9_2 := H9.out.x.cell 2 _ rfl
  have x9_3 := H9.out.x.cell 3 _ rfl
  have x9_4 := H9.out.x.cell 4 _ rfl
  have x9_5 := H9.out.x.cell 5 _ rfl
  have xl9 := H9.out.x.lt
  have x3_0 := H3.out.x.cell 0 _ rfl
  have x3_1 := H3.out.x.cell 1 _ rfl
  have x3_2 := H3.out.x.cell 2 _ rfl
  have x3_3 := H3.out.x.cell 3 _ rfl
  have x3_4 := H3.out.x.cell 4 _ rfl
  have x3_5 := H3.out.x.cell 5 _ rfl
  have xl3 := H3.out.x.lt
  go_wp2_with fail
  refine (ref3_Same _ t7 t7 (Nat.le_refl _) V10 _ _ H9.out.j H3.out.j).mono ?_
  rw [sameJ_self]
  rintro r V99 ⟨rfl, hq⟩
  replace HB := Keep.mk (up HB.out hq)
  replace H3 := Keep.mk (H3.out.up hq)
  replace H4 := Keep.mk (H4.out.up hq)
  replace H5 := Keep.mk (H5.out.up hq)
  clear hq x9_0 x9_1 x9_2 x9_3 x9_4 x9_5 xl9 x3_0 x3_1 x3_2 x3_3 x3_4 x3_5 xl3 H9
  go_upto_region 11 with fail
  have x3_0 := H3.out.x.cell 0 _ rfl
  have x3_1 := H3.out.x.cell 1 _ rfl
  have x3_2 := H3.out.x.cell 2 _ rfl
  have x3_3 := H3.out.x.cell 3 _ rfl
  have x3_4 := H3.out.x.cell 4 _ rfl
  have x3_5 := H3.out.x.cell 5 _ rfl
  have xl3 := H3.out.x.lt
  have x4_0 := H4.out.x.cell 0 _ rfl
  have x4_1 := H4.out.x.cell 1 _ rfl
  have x4_2 := H4.out.x.cell 2 _ rfl
  have x4_3 := H4.out.x.cell 3 _ rfl
  have x4_4 := H4.out.x.cell 4 _ rfl
  have x4_5 := H4.out.x.cell 5 _ rfl
  have xl4 := H4.out.x.lt
  go_wp2_with fail
  refine (Q3.out V99 _ _ HB.out H3.out.j H4.out.j).mono ?_
  rintro r W11 ⟨cs', hr, hj, hb⟩
  obtain ⟨k11, m11, e11, s11, A11, n11, c11, B11, p11, d11, rfl⟩ := hj.cells
  have hr : r = .returned (.tuple #[.agg #[.int .i64 k11, .int .i64 m11, .int .i64 e11, .string s11, .slice A11 n11 c11, .slice B11 p11 d11], .int .i64 f11]) := hr
  subst hr
  have HJ := Keep.mk hj.jat
  clear hj x3_0 x3_1 x3_2 x3_3 x3_4 x3_5 xl3 x4_0 x4_1 x4_2 x4_3 x4_4 x4_5 xl4
  go_upto_region 12 with fail
  refine wp_world (fun W => Below V99.heap.size V99 W ∧ HJ6 W W11.heap.size t11 (cells6 k11 m11 e11 s11 A11 n11 c11 B11 p11 d11)) ⟨up hb (al1 _ _), Box.new (cells6 k11 m11 e11 s11 A11 n11 c11 B11 p11 d11) _ rfl, HJ.out.up (al1 _ _)⟩ ?_
  clear hb HJ
  rintro V11 ⟨hq, H11⟩
  replace H11 := Keep.mk H11
  replace H3 := Keep.mk (H3.out.up hq)
  replace H4 := Keep.mk (H4.out.up hq)
  replace H5 := Keep.mk (H5.out.up hq)
  replace HB := Keep.mk (up HB.out hq)
  clear hq
  have x4_0 := H4.out.x.cell 0 _ rfl
  have x4_1 := H4.out.x.cell 1 _ rfl
  have x4_2 := H4.out.x.cell 2 _ rfl
  have x4_3 := H4.out.x.cell 3 _ rfl
  have x4_4 := H4.out.x.cell 4 _ rfl
  have x4_5 := H4.out.x.cell 5 _ rfl
  have xl4 := H4.out.x.lt
  have x5_0 := H5.out.x.cell 0 _ rfl
  have x5_1 := H5.out.x.cell 1 _ rfl
  have x5_2 := H5.out.x.cell 2 _ rfl
  have x5_3 := H5.out.x.cell 3 _ rfl
  have x5_4 := H5.out.x.cell 4 _ rfl
  have x5_5 := H5.out.x.cell 5 _ rfl
  have xl5 := H5.out.x.lt
  go_wp2_with fail
  refine (Q4.out V11 _ _ HB.out H4.out.j H5.out.j).mono ?_
  rintro r W12 ⟨cs', hr, hj, hb⟩
  obtain ⟨k12, m12, e12, s12, A12, n12, c12, B12, p12, d12, rfl⟩ := hj.cells
  have hr : r = .returned (.tuple #[.agg #[.int .i64 k12, .int .i64 m12, .int .i64 e12, .string s12, .slice A12 n12 c12, .slice B12 p12 d12], .int .i64 f12]) := hr
  subst hr
  have HJ := Keep.mk hj.jat
  clear hj x4_0 x4_1 x4_2 x4_3 x4_4 x4_5 xl4 x5_0 x5_1 x5_2 x5_3 x5_4 x5_5 xl5
  go_upto_region 13 with fail
  refine wp_world (fun W => Below V11.heap.size V11 W ∧ HJ6 W W12.heap.size t12 (cells6 k12 m12 e12 s12 A12 n12 c12 B12 p12 d12)) ⟨up hb (al1 _ _), Box.new (cells6 k12 m12 e12 s12 A12 n12 c12 B12 p12 d12) _ rfl, HJ.out.up (al1 _ _)⟩ ?_
  clear hb HJ
  rintro V12 ⟨hq, H12⟩
  replace H12 := Keep.mk H12
  replace H3 := Keep.mk (H3.out.up hq)
  replace H4 := Keep.mk (H4.out.up hq)
  replace H5 := Keep.mk (H5.out.up hq)
  replace H11 := Keep.mk (H11.out.up hq)
  replace HB := Keep.mk (up HB.out hq)
  clear hq
  have x11_0 := H11.out.x.cell 0 _ rfl
  have x11_1 := H11.out.x.cell 1 _ rfl
  have x11_2 := H11.out.x.cell 2 _ rfl
  have x11_3 := H11.out.x.cell 3 _ rfl
  have x11_4 := H11.out.x.cell 4 _ rfl
  have x11_5 := H11.out.x.cell 5 _ rfl
  have xl11 := H11.out.x.lt
  have x5_0 := H5.out.x.cell 0 _ rfl
  have x5_1 := H5.out.x.cell 1 _ rfl
  have x5_2 := H5.out.x.cell 2 _ rfl
  have x5_3 := H5.out.x.cell 3 _ rfl
  have x5_4 := H5.out.x.cell 4 _ rfl
  have x5_5 := H5.out.x.cell 5 _ rfl
  have xl5 := H5.out.x.lt
  go_wp2_with fail
  refine (Q5.out V12 _ _ HB.out H11.out.j H5.out.j).mono ?_
  rintro r W14 ⟨cs', hr, hj, hb⟩
  obtain ⟨k14, m14, e14, s14, A14, n14, c14, B14, p14, d14, rfl⟩ := hj.cells
  have hr : r = .returned (.tuple #[.agg #[.int .i64 k14, .int .i64 m14, .int .i64 e14, .string s14, .slice A14 n14 c14, .slice B14 p14 d14], .int .i64 f14]) := hr
  subst hr
  have HJ := Keep.mk hj.jat
  clear hj x11_0 x11_1 x11_2 x11_3 x11_4 x11_5 xl11 x5_0 x5_1 x5_2 x5_3 x5_4 x5_5 xl5
  go_upto_region 14 with fail
  refine wp_world (fun W => Below V12.heap.size V12 W ∧ HJ6 W W14.heap.size t14 (cells6 k14 m14 e14 s14 A14 n14 c14 B14 p14 d14)) ⟨up hb (al1 _ _), Box.new (cells6 k14 m14 e14 s14 A14 n14 c14 B14 p14 d14) _ rfl, HJ.out.up (al1 _ _)⟩ ?_
  clear hb HJ
  rintro V14 ⟨hq, H14⟩
  replace H14 := Keep.mk H14
  replace H3 := Keep.mk (H3.out.up hq)
  replace H4 := Keep.mk (H4.out.up hq)
  replace H5 := Keep.mk (H5.out.up hq)
  replace H11 := Keep.mk (H11.out.up hq)
  replace H12 := Keep.mk (H12.out.up hq)
  replace HB := Keep.mk (up HB.out hq)
  clear hq
  have x3_0 := H3.out.x.cell 0 _ rfl
  have x3_1 := H3.out.x.cell 1 _ rfl
  have x3_2 := H3.out.x.cell 2 _ rfl
  have x3_3 := H3.out.x.cell 3 _ rfl
  have x3_4 := H3.out.x.cell 4 _ rfl
  have x3_5 := H3.out.x.cell 5 _ rfl
  have xl3 := H3.out.x.lt
  have x12_0 := H12.out.x.cell 0 _ rfl
  have x12_1 := H12.out.x.cell 1 _ rfl
  have x12_2 := H12.out.x.cell 2 _ rfl
  have x12_3 := H12.out.x.cell 3 _ rfl
  have x12_4 := H12.out.x.cell 4 _ rfl
  have x12_5 := H12.out.x.cell 5 _ rfl
  have xl12 := H12.out.x.lt
  go_wp2_with fail
  refine (Q6.out V14 _ _ HB.out H3.out.j H12.out.j).mono ?_
  rintro r W16 ⟨cs', hr, hj, hb⟩
  obtain ⟨k16, m16, e16, s16, A16, n16, c16, B16, p16, d16, rfl⟩ := hj.cells
  have hr : r = .returned (.tuple #[.agg #[.int .i64 k16, .int .i64 m16, .int .i64 e16, .string s16, .slice A16 n16 c16, .slice B16 p16 d16], .int .i64 f16]) := hr
  subst hr
  have HJ := Keep.mk hj.jat
  clear hj x3_0 x3_1 x3_2 x3_3 x3_4 x3_5 xl3 x12_0 x12_1 x12_2 x12_3 x12_4 x12_5 xl12
  go_upto_region 15 with fail
  refine wp_world (fun W => Below V14.heap.size V14 W ∧ HJ6 W W16.heap.size t16 (cells6 k16 m16 e16 s16 A16 n16 c16 B16 p16 d16)) ⟨up hb (al1 _ _), Box.new (cells6 k16 m16 e16 s16 A16 n16 c16 B16 p16 d16) _ rfl, HJ.out.up (al1 _ _)⟩ ?_
  clear hb HJ
  rintro V16 ⟨hq, H16⟩
  replace H16 := Keep.mk H16
  replace H3 := Keep.mk (H3.out.up hq)
  replace H4 := Keep.mk (H4.out.up hq)
  replace H5 := Keep.mk (H5.out.up hq)
  replace H11 := Keep.mk (H11.out.up hq)
  replace H12 := Keep.mk (H12.out.up hq)
  replace H14 := Keep.mk (H14.out.up hq)
  replace HB := Keep.mk (up HB.out hq)
  clear hq
  clear Q3 Q4 Q5 Q6 H5 H12
  by_cases z11 : f11 = 0
  case neg =>
    have b11 : (f11 == 0) = false := by simpa using z11
    go_wp2
    go_ret
    exact ⟨rfl, HB.out⟩
  subst z11
  by_cases z12 : f12 = 0
  case neg =>
    have b12 : (f12 == 0) = false := by simpa using z12
    go_wp2
    go_ret
    exact ⟨rfl, HB.out⟩
  subst z12
  by_cases z14 : f14 = 0
  case neg =>
    have b14 : (f14 == 0) = false := by simpa using z14
    go_wp2
    go_ret
    exact ⟨rfl, HB.out⟩
  subst z14
  by_cases z16 : f16 = 0
  case neg =>
    have b16 : (f16 == 0) = false := by simpa using z16
    go_wp2
    go_ret
    exact ⟨rfl, HB.out⟩
  subst z16
  obtain ⟨rfl, L1, L2, L3, L4, L5⟩ := PL.out rfl rfl rfl rfl
  have PI1 := Keep.mk (fun (W : World) (c2 : List Value) (hb : Below w.heap.size w W) (hj : JAt W W.heap.size t7 c2) => plain_len t7 W c2 (HG.out W hb) hj L2 (by have := HZ.out; omega) HK.out)
  have PI2 := Keep.mk (fun (W : World) (c2 : List Value) (hb : Below w.heap.size w W) (hj : JAt W W.heap.size b c2) => plain_len b W c2 (HG.out W hb) hj L3 (by have := HZ.out; omega) (by rw [← HAB.out]; exact HK.out))
  have PI3 := Keep.mk (fun (W : World) (c2 : List Value) (hb : Below w.heap.size w W) (hj : JAt W W.heap.size t11 c2) => plain_len t11 W c2 (HG.out W hb) hj L4 PZ.out (by rw [L5]; exact HK.out))
  have S1 := Keep.mk (len_le t7)
  have S2 := Keep.mk (len_le b)
  have PI4 := Keep.mk (show ∀ (W : World) (c2 c3 : List Value), Below w.heap.size w W → JAt W W.heap.size (digV (wholeN (lenN t7))) c2 → JAt W W.heap.size (digV (wholeN (lenN b))) c3 → Calls Tryz.prog 10 #[.string ⟨#[43]⟩, .agg c2.toArray, .agg c3.toArray] W fun r w' => OpPost W r w' (digV (wholeN (lenN t11)), 0) from fun W c2 c3 hb hj hj2 => by
    have hlt : lenN t7 + lenN b < 1000000000000000000 := by have := HZ.out; have := S1.out; have := S2.out; omega
    have h := oper_plus (digV (wholeN (lenN t7))) (digV (wholeN (lenN b))) W c2 c3 (HG.out W hb) hj hj2 (by show 1 + 0 + 0 + 0 + (1 + 0 + 0 + 0) ≤ 10000; omega) (Or.inr (Or.inr (Or.inr (Or.inr ⟨rfl, rfl, (whole_i64 _ (by omega)).1, (whole_i64 _ (by omega)).1, by
      show I64 (addN (wholeN (lenN t7)).1 (wholeN (lenN t7)).2 (wholeN (lenN b)).1 (wholeN (lenN b)).2).1.1 ∧ I64 (addN (wholeN (lenN t7)).1 (wholeN (lenN t7)).2 (wholeN (lenN b)).1 (wholeN (lenN b)).2).1.2
      rw [whole_add _ _ hlt]
      exact whole_i64 _ hlt⟩))))
    rw [plus_whole _ _ hlt, ← L1] at h
    exact h)
  clear L1 L2 L3 L4 L5 PL HK HAB HBC HZ PZ S1 S2 K3
  go_upto_region 17 with fail
  have x3_0 := H3.out.x.cell 0 _ rfl
  have x3_1 := H3.out.x.cell 1 _ rfl
  have x3_2 := H3.out.x.cell 2 _ rfl
  have x3_3 := H3.out.x.cell 3 _ rfl
  have x3_4 := H3.out.x.cell 4 _ rfl
  have x3_5 := H3.out.x.cell 5 _ rfl
  have xl3 := H3.out.x.lt
  go_wp2_with fail
  refine (PI1.out V16 _ HB.out H3.out.j).mono ?_
  rintro r W18 ⟨cs', hr, hj, hb⟩
  obtain ⟨k18, m18, e18, s18, A18, n18, c18, B18, p18, d18, rfl⟩ := hj.cells
  have hr : r = .returned (.tuple #[.agg #[.int .i64 k18, .int .i64 m18, .int .i64 e18, .string s18, .slice A18 n18 c18, .slice B18 p18 d18], .int .i64 0]) := hr
  subst hr
  have HJ := Keep.mk hj.jat
  clear hj x3_0 x3_1 x3_2 x3_3 x3_4 x3_5 xl3
  go_upto_region 18 with fail
  refine wp_world (fun W => Below V16.heap.size V16 W ∧ HJ6 W W18.heap.size (digV (wholeN (lenN t7))) (cells6 k18 m18 e18 s18 A18 n18 c18 B18 p18 d18)) ⟨up hb (al1 _ _), Box.new (cells6 k18 m18 e18 s18 A18 n18 c18 B18 p18 d18) _ rfl, HJ.out.up (al1 _ _)⟩ ?_
  clear hb HJ
  rintro V18 ⟨hq, H18⟩
  replace H18 := Keep.mk H18
  replace H3 := Keep.mk (H3.out.up hq)
  replace H4 := Keep.mk (H4.out.up hq)
  replace H11 := Keep.mk (H11.out.up hq)
  replace H14 := Keep.mk (H14.out.up hq)
  replace H16 := Keep.mk (H16.out.up hq)
  replace HB := Keep.mk (up HB.out hq)
  clear hq
  have x4_0 := H4.out.x.cell 0 _ rfl
  have x4_1 := H4.out.x.cell 1 _ rfl
  have x4_2 := H4.out.x.cell 2 _ rfl
  have x4_3 := H4.out.x.cell 3 _ rfl
  have x4_4 := H4.out.x.cell 4 _ rfl
  have x4_5 := H4.out.x.cell 5 _ rfl
  have xl4 := H4.out.x.lt
  go_wp2_with fail
  refine (PI2.out V18 _ HB.out H4.out.j).mono ?_
  rintro r W20 ⟨cs', hr, hj, hb⟩
  obtain ⟨k20, m20, e20, s20, A20, n20, c20, B20, p20, d20, rfl⟩ := hj.cells
  have hr : r = .returned (.tuple #[.agg #[.int .i64 k20, .int .i64 m20, .int .i64 e20, .string s20, .slice A20 n20 c20, .slice B20 p20 d20], .int .i64 0]) := hr
  subst hr
  have HJ := Keep.mk hj.jat
  clear hj x4_0 x4_1 x4_2 x4_3 x4_4 x4_5 xl4
  go_upto_region 19 with fail
  refine wp_world (fun W => Below V18.heap.size V18 W ∧ HJ6 W W20.heap.size (digV (wholeN (lenN b))) (cells6 k20 m20 e20 s20 A20 n20 c20 B20 p20 d20)) ⟨up hb (al1 _ _), Box.new (cells6 k20 m20 e20 s20 A20 n20 c20 B20 p20 d20) _ rfl, HJ.out.up (al1 _ _)⟩ ?_
  clear hb HJ
  rintro V20 ⟨hq, H20⟩
  replace H20 := Keep.mk H20
  replace H3 := Keep.mk (H3.out.up hq)
  replace H4 := Keep.mk (H4.out.up hq)
  replace H11 := Keep.mk (H11.out.up hq)
  replace H14 := Keep.mk (H14.out.up hq)
  replace H16 := Keep.mk (H16.out.up hq)
  replace H18 := Keep.mk (H18.out.up hq)
  replace HB := Keep.mk (up HB.out hq)
  clear hq
  have x11_0 := H11.out.x.cell 0 _ rfl
  have x11_1 := H11.out.x.cell 1 _ rfl
  have x11_2 := H11.out.x.cell 2 _ rfl
  have x11_3 := H11.out.x.cell 3 _ rfl
  have x11_4 := H11.out.x.cell 4 _ rfl
  have x11_5 := H11.out.x.cell 5 _ rfl
  have xl11 := H11.out.x.lt
  go_wp2_with fail
  refine (PI3.out V20 _ HB.out H11.out.j).mono ?_
  rintro r W22 ⟨cs', hr, hj, hb⟩
  obtain ⟨k22, m22, e22, s22, A22, n22, c22, B22, p22, d22, rfl⟩ := hj.cells
  have hr : r = .returned (.tuple #[.agg #[.int .i64 k22, .int .i64 m22, .int .i64 e22, .string s22, .slice A22 n22 c22, .slice B22 p22 d22], .int .i64 0]) := hr
  subst hr
  have HJ := Keep.mk hj.jat
  clear hj x11_0 x11_1 x11_2 x11_3 x11_4 x11_5 xl11
  go_upto_region 20 with fail
  refine wp_world (fun W => Below V20.heap.size V20 W ∧ HJ6 W W22.heap.size (digV (wholeN (lenN t11))) (cells6 k22 m22 e22 s22 A22 n22 c22 B22 p22 d22)) ⟨up hb (al1 _ _), Box.new (cells6 k22 m22 e22 s22 A22 n22 c22 B22 p22 d22) _ rfl, HJ.out.up (al1 _ _)⟩ ?_
  clear hb HJ
  rintro V22 ⟨hq, H22⟩
  replace H22 := Keep.mk H22
  replace H3 := Keep.mk (H3.out.up hq)
  replace H4 := Keep.mk (H4.out.up hq)
  replace H11 := Keep.mk (H11.out.up hq)
  replace H14 := Keep.mk (H14.out.up hq)
  replace H16 := Keep.mk (H16.out.up hq)
  replace H18 := Keep.mk (H18.out.up hq)
  replace H20 := Keep.mk (H20.out.up hq)
  replace HB := Keep.mk (up HB.out hq)
  clear hq
  have x18_0 := H18.out.x.cell 0 _ rfl
  have x18_1 := H18.out.x.cell 1 _ rfl
  have x18_2 := H18.out.x.cell 2 _ rfl
  have x18_3 := H18.out.x.cell 3 _ rfl
  have x18_4 := H18.out.x.cell 4 _ rfl
  have x18_5 := H18.out.x.cell 5 _ rfl
  have xl18 := H18.out.x.lt
  have x20_0 := H20.out.x.cell 0 _ rfl
  have x20_1 := H20.out.x.cell 1 _ rfl
  have x20_2 := H20.out.x.cell 2 _ rfl
  have x20_3 := H20.out.x.cell 3 _ rfl
  have x20_4 := H20.out.x.cell 4 _ rfl
  have x20_5 := H20.out.x.cell 5 _ rfl
  have xl20 := H20.out.x.lt
  go_wp2_with fail
  refine (PI4.out V22 _ _ HB.out H18.out.j H20.out.j).mono ?_
  rintro r W24 ⟨cs', hr, hj, hb⟩
  obtain ⟨k24, m24, e24, s24, A24, n24, c24, B24, p24, d24, rfl⟩ := hj.cells
  have hr : r = .returned (.tuple #[.agg #[.int .i64 k24, .int .i64 m24, .int .i64 e24, .string s24, .slice A24 n24 c24, .slice B24 p24 d24], .int .i64 0]) := hr
  subst hr
  have HJ := Keep.mk hj.jat
  clear hj x18_0 x18_1 x18_2 x18_3 x18_4 x18_5 xl18 x20_0 x20_1 x20_2 x20_3 x20_4 x20_5 xl20
  go_upto_region 21 with fail
  refine wp_world (fun W => Below V22.heap.size V22 W ∧ HJ6 W W24.heap.size (digV (wholeN (lenN t11))) (cells6 k24 m24 e24 s24 A24 n24 c24 B24 p24 d24)) ⟨up hb (al1 _ _), Box.new (cells6 k24 m24 e24 s24 A24 n24 c24 B24 p24 d24) _ rfl, HJ.out.up (al1 _ _)⟩ ?_
  clear hb HJ
  rintro V24 ⟨hq, H24⟩
  replace H24 := Keep.mk H24
  replace H3 := Keep.mk (H3.out.up hq)
  replace H4 := Keep.mk (H4.out.up hq)
  replace H11 := Keep.mk (H11.out.up hq)
  replace H14 := Keep.mk (H14.out.up hq)
  replace H16 := Keep.mk (H16.out.up hq)
  replace H18 := Keep.mk (H18.out.up hq)
  replace H20 := Keep.mk (H20.out.up hq)
  replace H22 := Keep.mk (H22.out.up hq)
  replace HB := Keep.mk (up HB.out hq)
  clear hq
  clear PI1 PI2 PI3 PI4 H3 H4 H11 H18 H20
  have x14_0 := H14.out.x.cell 0 _ rfl
  have x14_1 := H14.out.x.cell 1 _ rfl
  have x14_2 := H14.out.x.cell 2 _ rfl
  have x14_3 := H14.out.x.cell 3 _ rfl
  have x14_4 := H14.out.x.cell 4 _ rfl
  have x14_5 := H14.out.x.cell 5 _ rfl
  have xl14 := H14.out.x.lt
  have x16_0 := H16.out.x.cell 0 _ rfl
  have x16_1 := H16.out.x.cell 1 _ rfl
  have x16_2 := H16.out.x.cell 2 _ rfl
  have x16_3 := H16.out.x.cell 3 _ rfl
  have x16_4 := H16.out.x.cell 4 _ rfl
  have x16_5 := H16.out.x.cell 5 _ rfl
  have xl16 := H16.out.x.lt
  go_wp2_with fail
  refine (ref3_Same _ t14 t14 (Nat.le_refl _) V24 _ _ H14.out.j H16.out.j).mono ?_
  rw [sameJ_self]
  rintro r V25 ⟨rfl, hq⟩
  replace HB := Keep.mk (up HB.out hq)
  replace H24 := Keep.mk (H24.out.up hq)
  replace H22 := Keep.mk (H22.out.up hq)
  clear hq x14_0 x14_1 x14_2 x14_3 x14_4 x14_5 xl14 x16_0 x16_1 x16_2 x16_3 x16_4 x16_5 xl16 H14 H16
  have x24_0 := H24.out.x.cell 0 _ rfl
  have x24_1 := H24.out.x.cell 1 _ rfl
  have x24_2 := H24.out.x.cell 2 _ rfl
  have x24_3 := H24.out.x.cell 3 _ rfl
  have x24_4 := H24.out.x.cell 4 _ rfl
  have x24_5 := H24.out.x.cell 5 _ rfl
  have xl24 := H24.out.x.lt
  have x22_0 := H22.out.x.cell 0 _ rfl
  have x22_1 := H22.out.x.cell 1 _ rfl
  have x22_2 := H22.out.x.cell 2 _ rfl
  have x22_3 := H22.out.x.cell 3 _ rfl
  have x22_4 := H22.out.x.cell 4 _ rfl
  have x22_5 := H22.out.x.cell 5 _ rfl
  have xl22 := H22.out.x.lt
  go_wp2_with fail
  refine (ref3_Same _ _ _ (Nat.le_refl _) V25 _ _ H24.out.j H22.out.j).mono ?_
  rw [sameJ_self]
  rintro r V26 ⟨rfl, hq⟩
  replace HB := Keep.mk (up HB.out hq)
  clear hq x24_0 x24_1 x24_2 x24_3 x24_4 x24_5 xl24 x22_0 x22_1 x22_2 x22_3 x22_4 x22_5 xl22 H22 H24
  go_wp2
  go_ret
  exact ⟨rfl, HB.out⟩
end Go.Proofs.YtnkokhpadcgfbaaGreatDoor
