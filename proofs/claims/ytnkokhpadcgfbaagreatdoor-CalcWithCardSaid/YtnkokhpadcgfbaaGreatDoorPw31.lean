/- Lemmas and contracts for the laws CalcWith, part 31 of 50: CalcJ, Ref7. Conditions: those that each lemma names. -/
import Derived.Test.YtnkokhpadcgfbaaGreatDoorPw11
import Derived.Test.YtnkokhpadcgfbaaGreatDoorPw12
import Derived.Test.YtnkokhpadcgfbaaGreatDoorPw13
import Derived.Test.YtnkokhpadcgfbaaGreatDoorPw5
import Derived.Test.YtnkokhpadcgfbaaGreatDoorPw1
import Derived.Test.YtnkokhpadcgfbaaGreatDoorPw30
import Derived.Test.YtnkokhpadcgfbaaGreatDoorPw20
import Derived.Test.YtnkokhpadcgfbaaGreatDoorPw4
import Derived.Test.YtnkokhpadcgfbaaGreatDoorPw22
import Derived.Test.YtnkokhpadcgfbaaGreatDoorPw19
import Derived.Test.YtnkokhpadcgfbaaGreatDoorPw9
import Derived.Test.YtnkokhpadcgfbaaGreatDoorPw29
import Derived.Lib.Split
import Derived.Lib.Join
import Derived.StillTail
import Derived.Outline
namespace Th
def JV.k : JV → Int | .mk k _ _ _ _ _ => k
def JV.m : JV → Int | .mk _ m _ _ _ _ => m
def JV.e : JV → Int | .mk _ _ e _ _ _ => e
def JV.s : JV → ByteArray | .mk _ _ _ s _ _ => s
def JV.l : JV → List JV | .mk _ _ _ _ l _ => l
def JV.ks : JV → List ByteArray | .mk _ _ _ _ _ ks => ks
end Th
namespace Go.Proofs.YtnkokhpadcgfbaaGreatDoor
open Go Go.RowKit Go.Proofs Th
def digV (p : Int × Int) : JV := .mk 3 p.1 p.2 ⟨#[]⟩ [] []
def textV (s : ByteArray) : JV := .mk 4 0 0 s [] []
def listV (l : List JV) : JV := .mk 5 0 0 ⟨#[]⟩ l []
def truthV (b : Bool) : JV := .mk (if b then 2 else 1) 0 0 ⟨#[]⟩ [] []
def doneJ (r : JV × Int) : JV × Int :=
  if r.2 ≠ 0 then (zeroJ, r.2) else if rightJ r.1 ≠ 0 then (zeroJ, rightJ r.1) else if 16384 < (printJ r.1).length then (zeroJ, 3) else r
end Go.Proofs.YtnkokhpadcgfbaaGreatDoor
namespace Go.Proofs.YtnkokhpadcgfbaaGreatDoor
open Go Go.RowKit Go.Proofs Th
attribute [local go_sem] Above.cell
structure Val6 (w wr : World) (k m e : Int) (s : ByteArray) (l : List JV) (ks : List ByteArray) (A : Option Addr) (c : Nat) (A' : Option Addr) (c' : Nat) : Prop where
  x : Box wr w.heap.size (cells6 k m e s A l.length c A' ks.length c')
  v : ValsAt wr w.heap.size A c l
  kk : StrsAt wr w.heap.size A' c' ks
  b : Below w.heap.size w wr
theorem Val6.below {w wr w' : World} {k m e : Int} {s : ByteArray} {l : List JV} {ks : List ByteArray} {A : Option Addr} {c : Nat} {A' : Option Addr} {c' : Nat} (h : Val6 w wr k m e s l ks A c A' c') (hb : Below wr.heap.size wr w') : Val6 w w' k m e s l ks A c A' c' :=
  ⟨h.x.below hb h.x.lt, h.v.below hb h.b.size, h.kk.below hb h.b.size, up h.b hb⟩
theorem Val6.start {w : World} {k m e : Int} {s : ByteArray} {l : List JV} {ks : List ByteArray} {A : Option Addr} {c : Nat} {A' : Option Addr} {c' : Nat} (t : TypeId) (hV : ValsAt w w.heap.size A c l) (hK : StrsAt w w.heap.size A' c' ks) :
    Val6 w (w.alloc (.cells #[.int .i64 k, .int .i64 m, .int .i64 e, .string s, .slice A l.length c, .slice A' ks.length c'] t)) k m e s l ks A c A' c' :=
  ⟨box_new6 .., hV.below (al1 _ _) (Nat.le_refl _), hK.below (al1 _ _) (Nat.le_refl _), al1 _ _⟩
theorem txt_len {t : JV} (h : allJ t = true) (hz : sizeJ t ≤ 1000000) : (textJ textN t).length ≤ 4000000000 := by
  have := textJ_len t h; omega
theorem pre_len {named : Bool} {l : List JV} {ks : List ByteArray} {j : Nat} {T : List UInt8} {tb : ByteArray} (ht : tb.data.toList = textL textN true named (l.take j) ks) (h : T = 123 :: textL textN true named l ks ++ [125] ∨ T = 91 :: textL textN true named l ks ++ [93]) (hT : T.length ≤ 4000000000) : tb.size ≤ 4000000000 := by
  have h1 := textL_le_take textN named l ks j
  rw [← ht, size_listU] at h1
  rcases h with rfl | rfl <;> simp at hT <;> omega
theorem strB_as {l : List UInt8} {b : ByteArray} (h : b.data.toList = l) : strB l = .string b := by subst h; rfl
set_option maxRecDepth 100000 in
set_option maxHeartbeats 4000000 in
theorem ref7_Text : ∀ (n : Nat) (t : JV), countJ t ≤ n → sizeJ t ≤ 1000000 → allJ t = true → ∀ (w : World) (cs : List Value), JAt w w.heap.size t cs →
    Calls Tryz.prog 54 #[.agg cs.toArray] w fun r w' => r = .returned (strB (textJ textN t)) ∧ Below w.heap.size w w' := by
  intro n
  induction n with
  | zero => intro t h; cases t; unfold countJ at h; omega
  | succ n ih =>
    intro t hn hz hall w cs hJ
    cases t with
    | mk k m e s l ks =>
      obtain ⟨A, c, A', c', rfl, hk, hm, he, hs, hK, hV⟩ := hJ.open
      show Calls _ _ #[.agg #[.int .i64 k, .int .i64 m, .int .i64 e, .string s, .slice A l.length c, .slice A' ks.length c']] w _
      have hcn := countL_get l
      have hcl : countL l ≤ n := by have : 1 + countL l ≤ n + 1 := hn; omega
      have hal : okOne (.mk k m e s l ks) = true ∧ allL l = true := by simpa only [allJ, Bool.and_eq_true] using hall
      obtain ⟨hk06, hri, hva, hrk, hkl⟩ := ok_parts hal.1
      have hz2 : 1 + s.size + keysN ks + sizeL l ≤ 1000000 := hz
      have hlc := hV.cap
      have hkc := hK.cap
      have HTL := Keep.mk (txt_len hall hz)
      have HTJ := Keep.mk (fun (j : Nat) (h : j < l.length) => txt_len (allL_get l j h hal.2) (by have := sizeL_get l j h; omega))
      have HP := Keep.mk (Val6.start (k := k) (m := m) (e := e) (s := s) 27 hV hK)
      have HAL := Keep.mk hal.2
      have HRK := Keep.mk hrk
      have HVA := Keep.mk hva
      have HRI := Keep.mk hri
      have HKL := Keep.mk hkl
      clear hkl hJ hV hK hn hz hall hal hrk hva hri
      have hk7 : k = 0 ∨ k = 1 ∨ k = 2 ∨ k = 3 ∨ k = 4 ∨ k = 5 ∨ k = 6 := by omega
      rcases hk7 with rfl | rfl | rfl | rfl | rfl | rfl | rfl
      · have HT := Keep.mk (show textJ textN (.mk 0 m e s l ks) = [110, 117, 108, 108] by simp [textJ])
        rw [HT.out]
        go_enter Tryz.func54, Tryz.ntmps54
        go_wp2
        go_ret
        exact ⟨rfl, al2 _ _ _⟩
      · have HT := Keep.mk (show textJ textN (.mk 1 m e s l ks) = [102, 97, 108, 115, 101] by simp [textJ])
        rw [HT.out]
        go_enter Tryz.func54, Tryz.ntmps54
        go_wp2
        go_ret
        exact ⟨rfl, al2 _ _ _⟩
      · have HT := Keep.mk (show textJ textN (.mk 2 m e s l ks) = [116, 114, 117, 101] by simp [textJ])
        rw [HT.out]
        go_enter Tryz.func54, Tryz.ntmps54
        go_wp2
        go_ret
        exact ⟨rfl, al2 _ _ _⟩
      · have HT := Keep.mk (show textJ textN (.mk 3 m e s l ks) = textN m e by simp [textJ])
        rw [HT.out]
        have HC := Keep.mk (fun w => ref_Print m e hm w)
        rw [print_ok HRI.out] at HC
        go_enter Tryz.func54, Tryz.ntmps54
        go_wp2_with fail
        refine (HC.out _).mono ?_
        rintro r w1 ⟨rfl, hb1⟩
        go_wp2
        go_ret
        exact ⟨rfl, up (al2 _ _ _) hb1⟩
      · have HT := Keep.mk (show textJ textN (.mk 4 m e s l ks) = quoteD s.data.toList by simp [textJ])
        rw [HT.out]
        have HC := Keep.mk (fun w => ref2_Write s (by omega) HVA.out w)
        go_enter Tryz.func54, Tryz.ntmps54
        go_wp2_with fail
        refine (HC.out _).mono ?_
        rintro r w1 ⟨rfl, hb1⟩
        go_wp2
        go_ret
        exact ⟨rfl, up (al2 _ _ _) hb1⟩
      · have HT := Keep.mk (textJ_list textN 5 m e s l ks rfl)
        rw [HT.out]
        rw [HT.out] at HTL
        go_enter Tryz.func54, Tryz.ntmps54
        go_upto_block 0 with fail
        refine wp_world (fun W => Val6 w W 5 m e s l ks A c A' c') (HP.out.below (al1 _ _)) ?_
        clear HP
        rintro W0 HP
        replace HP := Keep.mk HP
        go_wp2_with fail
        go_loopg [8, 9] l.length (fun gk sv i wr => ∃ (j : Nat) (tb : ByteArray), j + gk = l.length ∧ i = .int .i64 j ∧ sv = .string tb ∧ Keep (tb.data.toList = textL textN true false (l.take j) ks) ∧ Keep (Val6 w wr 5 m e s l ks A c A' c'))
        case atStart => exact ⟨0, _, by omega, rfl, rfl, ⟨by rw [List.take_zero]; rfl⟩, HP⟩
        case round =>
          clear HP
          obtain ⟨j, tb, hj, rfl, rfl, HTB, HP⟩ := hrel
          have htbz := pre_len HTB.out (by first | exact Or.inl rfl | exact Or.inr rfl) HTL.out
          have x0 := HP.out.x.cell 0 _ rfl
          have x3 := HP.out.x.cell 4 _ rfl
          have xl := HP.out.x.lt
          by_cases hlt : j < l.length
          · have hgk : gk ≠ 0 := by omega
            have HS := Keep.mk (textL_take textN false l ks j hlt)
            have hcj := hcn j hlt
            have hsj := sizeL_get l j hlt
            have haj := allL_get l j hlt HAL.out
            obtain ⟨gx, ox, k1', m1', e1', s1', A1', n1', c1', A2', n2', c2', rfl, hgx, hJ0, y0', y1', y2', y3', y4', y5'⟩ := HP.out.v.elem j hlt
            have hgs := HP.out.b.size
            have hgx2 : gx < wr.heap.size := by omega
            have HIH := Keep.mk (ih l[j] (by omega) (by omega) haj wr _ (hJ0.more hgs))
            clear hJ0 haj
            have hT1z := HTJ.out j hlt
            generalize textJ textN l[j] = T1 at *
            have hT1 : (⟨T1.toArray⟩ : ByteArray).data.toList = T1 := rfl
            rw [show strB T1 = .string ⟨T1.toArray⟩ from rfl] at HIH
            generalize (⟨T1.toArray⟩ : ByteArray) = tb1 at *
            have HT1 := Keep.mk hT1
            have htb1 : tb1.size ≤ 4000000000 := by rw [← size_listU, hT1]; exact hT1z
            clear hT1z
            clear hT1
            by_cases h0 : j = 0
            · have h0i : ¬ (0 : Int) < j := by omega
              have HN := Keep.mk (show (tb ++ tb1).data.toList = textL textN true false (l.take (j + 1)) ks by rw [HS.out, if_pos h0, ba_append, HTB.out, HT1.out]; simp)
              clear h0
              go_wp2_with fail
              refine HIH.out.mono ?_
              rintro r w3 ⟨rfl, hb3⟩
              go_wp2
              go_roundg (gk - 1)
              case rel => exact ⟨j + 1, _, by omega, by go_num, rfl, HN, ⟨HP.out.below hb3⟩⟩
              case measure => omega
            · have h0i : (0 : Int) < j := by omega
              have HN := Keep.mk (show (tb ++ ⟨#[44]⟩ ++ tb1).data.toList = textL textN true false (l.take (j + 1)) ks by rw [HS.out, if_neg h0, ba_append, ba_append, HTB.out, HT1.out]; simp)
              clear h0
              go_wp2_with fail
              refine HIH.out.mono ?_
              rintro r w3 ⟨rfl, hb3⟩
              go_wp2
              go_roundg (gk - 1)
              case rel => exact ⟨j + 1, _, by omega, by go_num, rfl, HN, ⟨HP.out.below hb3⟩⟩
              case measure => omega
          · have HE := Keep.mk (show l.take j = l from List.take_of_length_le (by omega))
            have HF := Keep.mk (show (⟨#[91]⟩ ++ tb ++ ⟨#[93]⟩ : ByteArray).data.toList = 91 :: textL textN true false l ks ++ [93] by rw [ba_append, ba_append, HTB.out, HE.out]; rfl)
            go_wp2
            go_ret
            exact ⟨ret_as HF.out, HP.out.b⟩
      · have HT := Keep.mk (textJ_map textN 6 m e s l ks rfl)
        rw [HT.out]
        rw [HT.out] at HTL
        go_enter Tryz.func54, Tryz.ntmps54
        go_upto_block 0 with fail
        refine wp_world (fun W => Val6 w W 6 m e s l ks A c A' c') (HP.out.below (al1 _ _)) ?_
        clear HP
        rintro W0 HP
        replace HP := Keep.mk HP
        go_wp2_with fail
        go_loopg [8, 9] l.length (fun gk sv i wr => ∃ (j : Nat) (tb : ByteArray), j + gk = l.length ∧ i = .int .i64 j ∧ sv = .string tb ∧ Keep (tb.data.toList = textL textN true true (l.take j) ks) ∧ Keep (Val6 w wr 6 m e s l ks A c A' c'))
        case atStart => exact ⟨0, _, by omega, rfl, rfl, ⟨by rw [List.take_zero]; rfl⟩, HP⟩
        case round =>
          clear HP
          obtain ⟨j, tb, hj, rfl, rfl, HTB, HP⟩ := hrel
          have htbz := pre_len HTB.out (by first | exact Or.inl rfl | exact Or.inr rfl) HTL.out
          have x0 := HP.out.x.cell 0 _ rfl
          have x3 := HP.out.x.cell 4 _ rfl
          have x4 := HP.out.x.cell 5 _ rfl
          have xl := HP.out.x.lt
          by_cases hlt : j < l.length
          · have hgk : gk ≠ 0 := by omega
            have HS := Keep.mk (textL_take textN true l ks j hlt)
            have hcj := hcn j hlt
            have hsj := sizeL_get l j hlt
            have haj := allL_get l j hlt HAL.out
            have hjk : j < ks.length := by have := HKL.out (by trivial); omega
            have hvk := key_valid HRK.out j hjk
            have hsk := keysN_get ks j hjk
            have hQ1z := quoteD_le (ks[j]).data.toList
            rw [size_listU] at hQ1z
            obtain ⟨gy, oy, rfl, hgy, hcy⟩ := HP.out.kk.at_ (by omega)
            have cy := hcy j hjk
            clear hcy
            obtain ⟨gx, ox, k1', m1', e1', s1', A1', n1', c1', A2', n2', c2', rfl, hgx, hJ0, y0', y1', y2', y3', y4', y5'⟩ := HP.out.v.elem j hlt
            have hgs := HP.out.b.size
            have hgx2 : gx < wr.heap.size := by omega
            have hgy2 : gy < wr.heap.size := by omega
            have HIH := Keep.mk (fun (w3 : World) (hb : Below wr.heap.size wr w3) => ih l[j] (by omega) (by omega) haj w3 _ (((hJ0.more hgs).keep hb (Nat.le_refl _)).more hb.size))
            have HQW := Keep.mk (fun (w3 : World) => ref2_Write ks[j] (by omega) hvk w3)
            have HS2 := Keep.mk (show textL textN true true (l.take (j + 1)) ks = textL textN true true (l.take j) ks ++ (if j = 0 then [] else [44]) ++ (quoteD (ks[j]'hjk).data.toList ++ [58]) ++ textJ textN l[j] by have h := HS.out; rw [getD_K ks j hjk] at h; simpa using h)
            clear hJ0 haj hvk HS
            generalize ks[j] = kb at *
            generalize quoteD kb.data.toList = Q1 at *
            have hQ1 : (⟨Q1.toArray⟩ : ByteArray).data.toList = Q1 := rfl
            rw [show strB Q1 = .string ⟨Q1.toArray⟩ from rfl] at HQW
            generalize (⟨Q1.toArray⟩ : ByteArray) = qb1 at *
            have HQ1 := Keep.mk hQ1
            have hqb1 : qb1.size ≤ 10000000 := by rw [← size_listU, hQ1]; omega
            clear hQ1z
            clear hQ1
            have hT1z := HTJ.out j hlt
            generalize textJ textN l[j] = T1 at *
            have hT1 : (⟨T1.toArray⟩ : ByteArray).data.toList = T1 := rfl
            rw [show strB T1 = .string ⟨T1.toArray⟩ from rfl] at HIH
            generalize (⟨T1.toArray⟩ : ByteArray) = tb1 at *
            have HT1 := Keep.mk hT1
            have htb1 : tb1.size ≤ 4000000000 := by rw [← size_listU, hT1]; exact hT1z
            clear hT1z
            clear hT1
            by_cases h0 : j = 0
            · have h0i : ¬ (0 : Int) < j := by omega
              have HN := Keep.mk (show ((tb ++ qb1 ++ ⟨#[58]⟩) ++ tb1).data.toList = textL textN true true (l.take (j + 1)) ks by rw [HS2.out, if_pos h0, ba_append, ba_append, ba_append, HTB.out, HT1.out, HQ1.out]; simp)
              clear h0
              go_wp2_with fail
              refine (HQW.out _).mono ?_
              rintro r w2 ⟨rfl, hb2⟩
              replace HIH := Keep.mk (HIH.out _ hb2)
              replace HP := Keep.mk (HP.out.below hb2)
              have z0 := (hb2.cell (p := ⟨gx, ox + j * 6, none⟩) hgx2).trans y0'
              have z1 := (hb2.cell (p := ⟨gx, ox + j * 6 + 1, none⟩) hgx2).trans y1'
              have z2 := (hb2.cell (p := ⟨gx, ox + j * 6 + 2, none⟩) hgx2).trans y2'
              have z3 := (hb2.cell (p := ⟨gx, ox + j * 6 + 3, none⟩) hgx2).trans y3'
              have z4 := (hb2.cell (p := ⟨gx, ox + j * 6 + 4, none⟩) hgx2).trans y4'
              have z5 := (hb2.cell (p := ⟨gx, ox + j * 6 + 5, none⟩) hgx2).trans y5'
              have hgx3 : gx < w2.heap.size := by have := hb2.size; omega
              clear hb2 x0 x3 x4 xl y0' y1' y2' y3' y4' y5' cy
              have x0 := HP.out.x.cell 0 _ rfl
              have x3 := HP.out.x.cell 4 _ rfl
              have xl := HP.out.x.lt
              go_wp2_with fail
              refine HIH.out.mono ?_
              rintro r w3 ⟨rfl, hb3⟩
              go_wp2
              go_roundg (gk - 1)
              case rel => exact ⟨j + 1, _, by omega, by go_num, rfl, HN, ⟨HP.out.below hb3⟩⟩
              case measure => omega
            · have h0i : (0 : Int) < j := by omega
              have HN := Keep.mk (show ((tb ++ ⟨#[44]⟩ ++ qb1 ++ ⟨#[58]⟩) ++ tb1).data.toList = textL textN true true (l.take (j + 1)) ks by rw [HS2.out, if_neg h0, ba_append, ba_append, ba_append, ba_append, HTB.out, HT1.out, HQ1.out]; simp)
              clear h0
              go_wp2_with fail
              refine (HQW.out _).mono ?_
              rintro r w2 ⟨rfl, hb2⟩
              replace HIH := Keep.mk (HIH.out _ hb2)
              replace HP := Keep.mk (HP.out.below hb2)
              have z0 := (hb2.cell (p := ⟨gx, ox + j * 6, none⟩) hgx2).trans y0'
              have z1 := (hb2.cell (p := ⟨gx, ox + j * 6 + 1, none⟩) hgx2).trans y1'
              have z2 := (hb2.cell (p := ⟨gx, ox + j * 6 + 2, none⟩) hgx2).trans y2'
              have z3 := (hb2.cell (p := ⟨gx, ox + j * 6 + 3, none⟩) hgx2).trans y3'
              have z4 := (hb2.cell (p := ⟨gx, ox + j * 6 + 4, none⟩) hgx2).trans y4'
              have z5 := (hb2.cell (p := ⟨gx, ox + j * 6 + 5, none⟩) hgx2).trans y5'
              have hgx3 : gx < w2.heap.size := by have := hb2.size; omega
              clear hb2 x0 x3 x4 xl y0' y1' y2' y3' y4' y5' cy
              have x0 := HP.out.x.cell 0 _ rfl
              have x3 := HP.out.x.cell 4 _ rfl
              have xl := HP.out.x.lt
              go_wp2_with fail
              refine HIH.out.mono ?_
              rintro r w3 ⟨rfl, hb3⟩
              go_wp2
              go_roundg (gk - 1)
              case rel => exact ⟨j + 1, _, by omega, by go_num, rfl, HN, ⟨HP.out.below hb3⟩⟩
              case measure => omega
          · have HE := Keep.mk (show l.take j = l from List.take_of_length_le (by omega))
            have HF := Keep.mk (show (⟨#[123]⟩ ++ tb ++ ⟨#[125]⟩ : ByteArray).data.toList = 123 :: textL textN true true l ks ++ [125] by rw [ba_append, ba_append, HTB.out, HE.out]; rfl)
            go_wp2
            go_ret
            exact ⟨ret_as HF.out, HP.out.b⟩
end Go.Proofs.YtnkokhpadcgfbaaGreatDoor
