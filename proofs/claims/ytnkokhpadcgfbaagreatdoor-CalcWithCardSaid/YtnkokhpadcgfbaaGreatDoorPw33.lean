/- Lemmas and contracts for the laws CalcWith, part 33 of 50: CalcB. Conditions: those that each lemma names. -/
import Derived.Test.YtnkokhpadcgfbaaGreatDoorPw32
import Derived.Test.YtnkokhpadcgfbaaGreatDoorPw2
namespace Go.Proofs.YtnkokhpadcgfbaaGreatDoor
open Go Go.RowKit Go.Proofs Th
attribute [local go_sem] Above.cell
theorem badL_step (l : List JV) (j : Nat) (h : j < l.length) : badL (l.drop j) = if rightJ l[j] ≠ 0 then rightJ l[j] else badL (l.drop (j + 1)) := by
  rw [List.drop_eq_getElem_cons h]; rfl
set_option maxRecDepth 100000 in
theorem calc_right (l : List JV) (A : Option Addr) (c : Nat) (w : World) (hG : GlobV w) (hV : ValsAt w w.heap.size A c l) :
    Calls Tryz.prog 22 #[.slice A l.length c] w fun r w' => r = .returned (.int .i64 (badL l)) ∧ Below w.heap.size w w' := by
  have hlc := hV.cap
  have hl0 := hV.le
  have HG := Keep.mk (fun W (hb : Below w.heap.size w W) => hG.below hb)
  go_enter Tryz.func22, Tryz.ntmps22
  go_wp2_with fail
  go_loopg [8] l.length (fun gk i wr => ∃ j : Nat, j + gk = l.length ∧ i = .int .i64 j ∧ Keep (badL (l.drop j) = badL l) ∧ Keep (ValsAt wr w.heap.size A c l) ∧ Keep (Below w.heap.size w wr))
  case atStart => exact ⟨0, by omega, rfl, ⟨by rw [List.drop_zero]⟩, ⟨hV⟩, ⟨Below.refl _ _⟩⟩
  case round =>
    clear hV
    obtain ⟨j, hj, rfl, HC, HV, HB⟩ := hrel
    have hwl := HB.out.size
    by_cases hlt : j < l.length
    · have hgk : gk ≠ 0 := by omega
      obtain ⟨g, o, k1, m1, e1, s1, A1, n1, d1, B1, q1, f1, rfl, hg, hJ1, y0, y1, y2, y3, y4, y5⟩ := HV.out.elem j hlt
      have hg2 : g < wr.heap.size := by omega
      have HS := Keep.mk (badL_step l j hlt)
      have HCC := Keep.mk (fun o8 => value_Right l[j] (wr.alloc o8) _ (HG.out _ (up HB.out (al1 _ _))) ((hJ1.more hwl).up (al1 _ _)))
      clear hJ1
      obtain ⟨z, hz⟩ : ∃ z : Int, rightJ l[j] = z := ⟨_, rfl⟩
      rw [hz] at HCC HS
      clear hz
      by_cases hz0 : z = 0
      · have HE := Keep.mk (show badL (l.drop (j + 1)) = badL l by rw [← HC.out, HS.out, if_neg (fun h => h hz0)])
        subst hz0
        clear HS HC
        go_wp2_with fail
        refine (HCC.out _).mono ?_
        rintro r w1 ⟨rfl, hb1⟩
        go_wp2
        go_roundg (gk - 1)
        case rel => exact ⟨j + 1, by omega, by go_num, HE, ⟨HV.out.below (up (al1 wr _) hb1) hwl⟩, ⟨up (up HB.out (al1 _ _)) hb1⟩⟩
        case measure => omega
      · have HE := Keep.mk (show z = badL l by rw [← HC.out, HS.out, if_pos hz0])
        have hzb : (z == 0) = false := by simpa using hz0
        clear HS HC
        go_wp2_with fail
        refine (HCC.out _).mono ?_
        rintro r w1 ⟨rfl, hb1⟩
        go_wp2
        go_ret
        exact ⟨ret_int HE.out, up (up HB.out (al1 _ _)) hb1⟩
    · have HE := Keep.mk (show 0 = badL l by rw [← HC.out, List.drop_eq_nil_of_le (by omega)]; rfl)
      obtain rfl : j = l.length := by omega
      clear HC
      go_wp2
      go_ret
      exact ⟨ret_int HE.out, HB.out⟩
def signsB : List ByteArray := [⟨#[43]⟩, ⟨#[45]⟩, ⟨#[42]⟩, ⟨#[47]⟩, ⟨#[37]⟩, ⟨#[61, 61]⟩, ⟨#[33, 61]⟩, ⟨#[60]⟩, ⟨#[60, 61]⟩, ⟨#[62]⟩, ⟨#[62, 61]⟩]
set_option maxRecDepth 100000 in
theorem calc_sign (s : ByteArray) (w : World) : Calls Tryz.prog 21 #[.string s] w fun r w' => r = .returned (.bool (Lib.containsS signsB s)) ∧ Below w.heap.size w w' := by
  go_enter Tryz.func21, Tryz.ntmps21
  go_wp2_with fail
  refine (Tryz.slices_Contains_string w.heap.size 0 11 11 signsB s _ (by decide) (by decide) (fun j hj => ?_)).mono ?_
  · have hB : Box (w.alloc (.cells (signsB.map Value.string).toArray 9)) w.heap.size (signsB.map .string) := Box.new _ _ rfl
    rw [Nat.zero_add]
    exact hB.cell j _ (by rw [List.getElem?_map, List.getElem?_eq_getElem hj, List.getD_eq_getElem?_getD, List.getElem?_eq_getElem hj]; rfl)
  · rintro r w1 ⟨rfl, rfl⟩
    go_wp2
    go_ret
    exact ⟨rfl, al1 _ _⟩
theorem two_vals (w : World) (a b : JV) (k m e : Int) (s : ByteArray) (A : Option Addr) (n c : Nat) (A' : Option Addr) (n' c' : Nat) (k2 m2 e2 : Int) (s2 : ByteArray) (B : Option Addr) (n2 d : Nat) (B' : Option Addr) (n2' d' : Nat)
    (hJ : JAt w w.heap.size a (cells6 k m e s A n c A' n' c')) (hJ2 : JAt w w.heap.size b (cells6 k2 m2 e2 s2 B n2 d B' n2' d')) (t : TypeId) :
    ValsAt (w.alloc (.cells #[.int .i64 k, .int .i64 m, .int .i64 e, .string s, .slice A n c, .slice A' n' c', .int .i64 k2, .int .i64 m2, .int .i64 e2, .string s2, .slice B n2 d, .slice B' n2' d'] t)) (w.alloc (.cells #[.int .i64 k, .int .i64 m, .int .i64 e, .string s, .slice A n c, .slice A' n' c', .int .i64 k2, .int .i64 m2, .int .i64 e2, .string s2, .slice B n2 d, .slice B' n2' d'] t)).heap.size
      (some ⟨w.heap.size, 0, none⟩) 2 [a, b] := by
  have hB := Box.new (w := w) (cells6 k m e s A n c A' n' c' ++ cells6 k2 m2 e2 s2 B n2 d B' n2' d') t rfl
  refine ⟨by simp, by simp, by decide, fun j hj => ?_⟩
  match j, hj with
  | 0, _ => exact ⟨_, 0, _, rfl, by simp, fun i v hv => (by
      have hi : i < 6 := (List.getElem?_eq_some_iff.1 hv).1
      rw [show 0 + 0 * 6 + i = i by omega]
      exact hB.cell i v (by rw [List.getElem?_append_left (by simpa [cells6] using hi)]; exact hv)), hJ.up (al1 _ _)⟩
  | 1, _ => exact ⟨_, 0, _, rfl, by simp, fun i v hv => (by
      rw [show 0 + 1 * 6 + i = 6 + i by omega]
      exact hB.cell (6 + i) v (by rw [List.getElem?_append_right (by simp [cells6])]; simpa [cells6] using hv)), hJ2.up (al1 _ _)⟩
end Go.Proofs.YtnkokhpadcgfbaaGreatDoor
