/- thimblelaw07.WriteParts. Conditions: GlobV; the values lie in memory as finite trees. -/
import Derived.Test.YtljemfajjeoecaaDoorWriteP
import Derived.Test.YtljemfajjeoecaaDoorValMath
import Derived.Test.YtljemfajjeoecaaDoorRef3
import Derived.Outline
namespace Go.Proofs.YtljemfajjeoecaaDoor
open Go Go.RowKit Go.Proofs Th
attribute [local go_sem] Above.cell Above.frozen

structure PartW (w wr : World) (l : List JV) (A : Option Addr) (c : Nat) : Prop where
  v : ValsAt wr w.heap.size A c l
  g : GlobV wr
  b : Below w.heap.size w wr
theorem PartW.below {w wr w' : World} {l : List JV} {A : Option Addr} {c : Nat} (h : PartW w wr l A c) (hb : Below wr.heap.size wr w') : PartW w w' l A c :=
  ⟨h.v.below hb h.b.size, h.g.below hb, up h.b hb⟩
theorem PartW.list {w wr : World} {l : List JV} {A : Option Addr} {c : Nat} (h : PartW w wr l A c) {k : Int} (hk : I64 k) : JAt wr wr.heap.size (.mk k 0 0 ⟨#[]⟩ l []) (cells6 k 0 0 ⟨#[]⟩ A l.length c none 0 0) :=
  (JAt.shut (ks := []) hk ⟨by decide, by decide⟩ ⟨by decide, by decide⟩ (by decide) (nil_strs ..) h.v).more h.b.size
theorem list_right (l : List JV) (h : allL l = true) : rightJ (.mk 5 0 0 ⟨#[]⟩ l []) = if 48 < depthJ (.mk 5 0 0 ⟨#[]⟩ l []) then 31 else 0 := by
  have : allJ (.mk 5 0 0 ⟨#[]⟩ l []) = true := by
    simp only [allJ, h, Bool.and_true, okOne]
    simp [riseK]
    exact ⟨by decide +kernel, rfl⟩
  unfold rightJ
  rw [this]; rfl
theorem list_right_cases (l : List JV) (h : allL l = true) : (rightJ (.mk 5 0 0 ⟨#[]⟩ l []) = 31 ∧ printJ (.mk 5 0 0 ⟨#[]⟩ l []) = []) ∨ (rightJ (.mk 5 0 0 ⟨#[]⟩ l []) = 0 ∧ printJ (.mk 5 0 0 ⟨#[]⟩ l []) = 91 :: textL textN true false l [] ++ [93]) := by
  have := list_right l h
  by_cases hd : 48 < depthJ (.mk 5 0 0 ⟨#[]⟩ l [])
  · rw [if_pos hd] at this
    exact Or.inl ⟨this, by unfold printJ; rw [this]; rfl⟩
  · rw [if_neg hd] at this
    refine Or.inr ⟨this, ?_⟩
    unfold printJ; rw [if_pos this]
    exact textJ_list textN 5 0 0 _ l [] rfl
theorem parts_next (l : List JV) (j : Nat) (h : j < l.length) (hr : rightJ l[j] = 0) {wb tb : ByteArray} (hw : wb.data.toList = 91 :: textL textN true false (l.take j) []) (ht : tb.data.toList = printJ l[j]) :
    ((if j = 0 then wb else wb ++ ⟨#[44]⟩) ++ tb).data.toList = 91 :: textL textN true false (l.take (j + 1)) [] := by
  have hp : printJ l[j] = textJ textN l[j] := by unfold printJ; rw [if_pos hr]
  rw [ba_append, ht, hp, textL_take textN false l [] j h]
  by_cases h0 : j = 0
  · rw [if_pos h0, if_pos h0, hw]; simp
  · rw [if_neg h0, if_neg h0, ba_append, hw]; simp
theorem sizeL_take_le : ∀ (l : List JV) (j : Nat), sizeL (l.take j) ≤ sizeL l
  | [], j => by simp
  | _ :: _, 0 => by simp [sizeL]
  | v :: r, j + 1 => by
    have := sizeL_take_le r j
    simp only [List.take_succ_cons, sizeL]; omega
theorem parts_len {l : List JV} {j : Nat} {wb : ByteArray} (hw : wb.data.toList = 91 :: textL textN true false (l.take j) []) (ha : allL (l.take j) = true) (hz : sizeL l ≤ 2000) : wb.size ≤ 9000000 := by
  have h1 := textL_le textR textR_le true false (l.take j) []
  rw [← textL_right true false (l.take j) [] ha] at h1
  have h2 := sizeL_take_le l j
  have h3 := congrArg List.length hw
  rw [size_listU, List.length_cons] at h3
  have : keysN [] = 0 := rfl
  omega
theorem elem_len {l : List JV} {j : Nat} {tb : ByteArray} (h : j < l.length) (ht : tb.data.toList = printJ l[j]) (hz : sizeL l ≤ 2000) : tb.size ≤ 10000000000 := by
  rw [← size_listU, ht]
  unfold printJ
  split
  · rename_i hr; exact text_bound _ (by have := sizeL_get l j h; omega) hr
  · simp
set_option maxRecDepth 100000 in
set_option maxHeartbeats 4000000 in
theorem law_parts (l : List JV) (A : Option Addr) (c : Nat) (w : World) (hG : GlobV w) (hV : ValsAt w w.heap.size A c l) :
    Calls Tryd.prog 5 #[.slice A l.length c] w fun r w' => r = .returned (.bool true) ∧ Below w.heap.size w w' := by
  have HBK := Keep.mk (ref3_Bulk _ (.mk 0 0 0 ⟨#[]⟩ l []) (Nat.le_refl _) 2000 (by omega))
  have HPR := Keep.mk (fun (j : Nat) (h : j < l.length) (hz : sizeL l ≤ 2000) => write_Print l[j] (by have := sizeL_get l j h; omega))
  have HPL := Keep.mk (fun (hz : sizeL l ≤ 2000) => write_Print (.mk 5 0 0 ⟨#[]⟩ l []) (by show 1 + 0 + 0 + sizeL l ≤ _; omega))
  have HSZ := Keep.mk (show sizeJ (.mk 0 0 0 ⟨#[]⟩ l []) = 1 + 0 + 0 + sizeL l from rfl)
  have HO := Keep.mk (show PartW w w l A c from ⟨hV, hG, Below.refl _ _⟩)
  have hlc := hV.le
  have hlcap := hV.cap
  clear hG hV
  go_enter Tryd.func5, Tryd.ntmps5
  go_wp2_with fail
  refine (works7 _ HO.out.g).mono ?_
  rintro r w1 ⟨rfl, hb1⟩
  replace HO := Keep.mk (HO.out.below hb1)
  clear hb1
  go_wp2_with fail
  refine (HBK.out _ _ (HO.out.list ⟨by decide, by decide⟩)).mono ?_
  rintro r w2 ⟨b, rfl, hbk, hbl, hb2⟩
  replace HO := Keep.mk (HO.out.below hb2)
  clear hb2
  by_cases hb : 2000 < b
  · have hb9 : (2000 : Int) < b := by omega
    clear hbk
    go_wp2
    go_ret
    exact ⟨rfl, HO.out.b⟩
  · have hb9 : ¬ (2000 : Int) < b := by omega
    have hsz2 : sizeL l ≤ 2000 := by have := hbk (by omega); have := HSZ.out; omega
    replace HPL := Keep.mk (HPL.out hsz2)
    replace HPR := Keep.mk (fun j h => HPR.out j h hsz2)
    have HWL := Keep.mk (fun (j : Nat) (wb : ByteArray) hw ha => parts_len (l := l) (j := j) (wb := wb) hw ha hsz2)
    have HEL := Keep.mk (fun (j : Nat) (tb : ByteArray) h ht => elem_len (l := l) (j := j) (tb := tb) h ht hsz2)
    clear hbk hb hsz2 HSZ HBK
    go_wp2_with fail
    go_loopg [3, 18] l.length (fun gk s i wr => ∃ (j : Nat) (wb : ByteArray), j + gk = l.length ∧ i = .int .i64 j ∧ s = .string wb ∧ Keep (wb.data.toList = 91 :: textL textN true false (l.take j) []) ∧ Keep (allL (l.take j) = true) ∧ Keep (PartW w wr l A c))
    case atStart => exact ⟨0, _, by omega, rfl, rfl, ⟨rfl⟩, ⟨rfl⟩, HO⟩
    case round =>
      clear HO
      obtain ⟨j, wb, hj, rfl, rfl, HW, HA, HO⟩ := hrel
      have hwz := HWL.out j wb HW.out HA.out
      by_cases hlt : j < l.length
      · have hgk : gk ≠ 0 := by omega
        have HS := Keep.mk (allL_take l j hlt)
        have HN := Keep.mk (fun (hr : rightJ l[j] = 0) (tb : ByteArray) (ht : tb.data.toList = printJ l[j]) => parts_next l j hlt hr (wb := wb) HW.out ht)
        obtain ⟨g, o, k1, m1, e1, s1, A1, n1, c1, A2, n2, c2, rfl, hg, hJj, y0, y1, y2, y3, y4, y5⟩ := HO.out.v.elem j hlt
        have hwl := HO.out.b.size
        have hg2 : g < wr.heap.size := by omega
        have HCC := Keep.mk (fun o9 => HPR.out j hlt (wr.alloc o9) _ (HO.out.g.below (al1 _ _)) ((hJj.more hwl).keep (al1 _ _) (Nat.le_refl _) |>.more (al1 _ _).size))
        have HR := Keep.mk (right_ok (t := l[j]))
        clear hJj
        generalize hrr : rightJ l[j] = rr at *
        clear hrr
        by_cases hr0 : rr = 0
        · subst hr0
          have HE := Keep.mk (show allL (l.take (j + 1)) = true by rw [HS.out, HA.out, (HR.out rfl).1]; rfl)
          by_cases h0 : j = 0
          · have h0i : ¬ (0 : Int) < j := by omega
            have HN2 := Keep.mk (fun (tb : ByteArray) (ht : tb.data.toList = printJ l[j]) => by have := HN.out rfl tb ht; rw [if_pos h0] at this; exact this)
            clear h0
            go_wp2_with fail
            refine (HCC.out _).mono ?_
            rintro r w3 ⟨tb, rfl, htb, hb3⟩
            have HT := Keep.mk (HN2.out tb htb)
            have htz := HEL.out j tb hlt htb
            clear htb
            go_wp2
            go_roundg (gk - 1)
            case rel => exact ⟨j + 1, _, by omega, by go_num, rfl, HT, HE, ⟨HO.out.below (up (al1 wr _) hb3)⟩⟩
            case measure => omega
          · have h0i : (0 : Int) < j := by omega
            have HN2 := Keep.mk (fun (tb : ByteArray) (ht : tb.data.toList = printJ l[j]) => by have := HN.out rfl tb ht; rw [if_neg h0] at this; exact this)
            clear h0
            go_wp2_with fail
            refine (HCC.out _).mono ?_
            rintro r w3 ⟨tb, rfl, htb, hb3⟩
            have HT := Keep.mk (HN2.out tb htb)
            have htz := HEL.out j tb hlt htb
            clear htb
            go_wp2
            go_roundg (gk - 1)
            case rel => exact ⟨j + 1, _, by omega, by go_num, rfl, HT, HE, ⟨HO.out.below (up (al1 wr _) hb3)⟩⟩
            case measure => omega
        · have hr2 : (rr != 0) = true := by simpa using hr0
          clear hr0
          go_wp2_with fail
          refine (HCC.out _).mono ?_
          rintro r w3 ⟨tb, rfl, _, hb3⟩
          go_wp2
          go_ret
          exact ⟨rfl, up (up HO.out.b (al1 _ _)) hb3⟩
      · have HE := Keep.mk (show allL l = true by have := HA.out; rw [List.take_of_length_le (by omega)] at this; exact this)
        have HW2 := Keep.mk (show wb.data.toList = 91 :: textL textN true false l [] by have := HW.out; rw [List.take_of_length_le (by omega)] at this; exact this)
        have HCC := Keep.mk (HPL.out wr _ HO.out.g (HO.out.list ⟨by decide, by decide⟩))
        rcases list_right_cases l HE.out with ⟨h1, h2⟩ | ⟨h1, h2⟩
        · rw [h1, h2] at HCC
          clear h1 h2
          go_wp2_with fail
          refine HCC.out.mono ?_
          rintro r w3 ⟨tb, rfl, htb, hb3⟩
          obtain rfl := of_list htb
          go_wp2
          go_ret
          exact ⟨rfl, up HO.out.b hb3⟩
        · rw [h1, h2] at HCC
          clear h1 h2
          go_wp2_with fail
          refine HCC.out.mono ?_
          rintro r w3 ⟨tb, rfl, htb, hb3⟩
          obtain rfl : tb = wb ++ ⟨#[93]⟩ := ba_inj (by rw [htb, ba_append, HW2.out])
          go_wp2
          go_ret
          exact ⟨rfl, up HO.out.b hb3⟩
end Go.Proofs.YtljemfajjeoecaaDoor
