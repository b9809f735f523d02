/- num.Parse, whole. Conditions: Glob; the text is no longer than texts are. -/
import Derived.Test.YtljemfajjeoecaaDoorParse
import Derived.Test.YtljemfajjeoecaaDoorNumMathD
namespace Go.Proofs.YtljemfajjeoecaaDoor
open Go Go.RowKit Go.Proofs Th
attribute [local go_sem] Above.cell Above.frozen

theorem ext_to (s : ByteArray) (k : Nat) : (s.extract k s.size).data.toList = s.data.toList.drop k := by
  rw [Lib.extract_data, List.take_of_length_le]; simp
theorem ext_from (s : ByteArray) (k : Nat) : (s.extract 0 k).data.toList = s.data.toList.take k := by
  rw [Lib.extract_data]; simp
theorem ext_mid (s : ByteArray) (f : Nat) : (s.extract 1 (1 + f)).data.toList = (s.data.toList.drop 1).take f := by
  rw [Lib.extract_data]; congr 1; omega
theorem size_list (s : ByteArray) : s.size = s.data.toList.length := by simp
theorem head_list (s : ByteArray) (h : 0 < s.size) : s.data.toList.head? = some s[0] := by
  have h2 : 0 < s.data.toList.length := by simpa using h
  rw [List.head?_eq_getElem?, List.getElem?_eq_getElem h2]; rfl
theorem head_of_pre {l : List UInt8} {c : UInt8} (h : Lib.hasPrefix l [c] = true) : l.head? = some c := by rw [pre_of h]; rfl
theorem head_not_pre {l : List UInt8} {c : UInt8} (h : Lib.hasPrefix l [c] = false) : l.head? ≠ some c := by
  cases l with
  | nil => simp
  | cons d l => have := not_pre h; simpa using this
theorem expoN_of_none {l : List UInt8} (h : expoP l = none) : expoN l = (0, false) := by unfold expoN; rw [h]
theorem expoN_of_some {l x : List UInt8} {en : Bool} (h : expoP l = some (en, x)) : expoN l = (sg en (clampN x), true) := by unfold expoN; rw [h]
theorem sg_lo (en : Bool) (x : List UInt8) : -1099511627776 ≤ sg en (clampN x) := by have := clampN_le x; unfold sg; split <;> omega
theorem sg_hi (en : Bool) (x : List UInt8) : sg en (clampN x) ≤ 1099511627776 := by have := clampN_le x; unfold sg; split <;> omega
theorem norm_eleven (neg : Bool) (v : Nat) (e : Int) (h1 : v % 10 ≠ 0) (h2 : 1000000000000000000 ≤ v) : norm neg v e = ((0, 0), 11) := by
  rw [norm_fin _ _ _ h1]; unfold fin; rw [if_pos (.inl h2)]
theorem isEmpty_list (T : ByteArray) (h : T.data.toList ≠ []) : T.toList.isEmpty = false := isEmpty_of (by
  cases h2 : T.data.toList with
  | nil => exact absurd h2 h
  | cons _ _ => rw [size_list, h2]; simp)
theorem empty_list (T : ByteArray) (h : T.data.toList = []) : T = ⟨#[]⟩ := by
  obtain ⟨⟨l⟩⟩ := T
  have : l = [] := h
  rw [this]
theorem allDig_get (T : ByteArray) (h : AllDig T.data.toList) : Keep (∀ k (hk : k < T.size), 48 ≤ T[k].toNat ∧ T[k].toNat ≤ 57) :=
  ⟨fun k hk => h T[k] (List.getElem_mem (l := T.data.toList) (n := k) (by simpa using hk))⟩

theorem parse_core_o (s : ByteArray) (hs : s.size ≤ 2305843009213693952) (hp : Lib.hasPrefix s.data.toList [45] = false) (w : World) (hg : Glob w) :
    Calls Tryd.prog 25 #[.string s] w fun r w' => r = .returned (numRes (coreN false s.data.toList)) ∧ Below w.heap.size w w' := by
  generalize hd : nDig s.data.toList = d
  have h1 : d ≤ s.size := by rw [← hd, size_list]; exact nDig_le _
  by_cases hz0 : d = 0
  · rw [core_bad _ _ (.inl (by rw [hd, hz0]))]; exact parse_Ao s hs hp d hd (by rw [hz0]; rfl) w hg
  have h01 : 1 ≤ d := by omega
  have hU0 : 0 < s.size := by omega
  have hh := head_list s hU0
  have hzf : ((d : Int) == 0) = false := by simpa using hz0
  by_cases hb : 1 < d ∧ s[0] = 48
  · rw [core_bad _ _ (.inr ⟨by rw [hd]; exact hb.1, by rw [hh, hb.2]⟩)]; exact parse_Bo s hs hp d hd h1 hzf hb.1 (by rw [hb.2]; rfl) w hg
  have hnb : ¬ (d = 0 ∨ (1 < d ∧ s.data.toList.head? = some 48)) := by
    rw [hh]; rintro (h | ⟨h, h2⟩)
    · exact hz0 h
    · exact hb ⟨h, Option.some.inj h2⟩
  have hz : ¬ 1 < d ∨ (1 < d ∧ ((s[0].toNat : Int) == 48) = false) := by
    by_cases hlt : 1 < d
    · right; refine ⟨hlt, ?_⟩
      have : s[0].toNat ≠ 48 := fun h => hb ⟨hlt, UInt8.toNat.inj h⟩
      simp; omega
    · exact .inl hlt
  generalize hA : s.extract 0 d = A
  generalize hR : s.extract d s.size = R
  have hAl : A.data.toList = s.data.toList.take d := by rw [← hA, ext_from]
  have hRl : R.data.toList = s.data.toList.drop d := by rw [← hR, ext_to]
  have hAn : A.size = d := by rw [size_list, hAl, List.length_take, ← size_list]; omega
  have hRn : R.size = s.size - d := by rw [size_list, hRl, List.length_drop, ← size_list]
  have hAs : A.size ≤ 2305843009213693952 := by omega
  have hRs : R.size ≤ 2305843009213693952 := by omega
  have hAd : AllDig A.data.toList := by rw [hAl, ← hd]; exact allDig_take _
  by_cases hr : Lib.hasPrefix R.data.toList [46] = true
  · have hR1 : 0 < R.size := by
      have := congrArg List.length (pre_of hr); rw [size_list]; simp at this; simp; omega
    have hRh := head_of_pre hr
    generalize hS : R.extract 1 R.size = S
    have hSl : S.data.toList = R.data.toList.drop 1 := by rw [← hS, ext_to]
    have hSn : S.size = R.size - 1 := by rw [size_list, hSl, List.length_drop, ← size_list]
    have hSs : S.size ≤ 2305843009213693952 := by omega
    generalize hf0 : nDig S.data.toList = f
    have hff : f + 1 ≤ R.size := by have := nDig_le S.data.toList; rw [← size_list] at this; omega
    by_cases hfz : f = 0
    · have hF : fracP (s.data.toList.drop (nDig s.data.toList)) = none := by
        rw [hd, ← hRl]; unfold fracP; rw [if_pos hRh, ← hSl, if_pos (by rw [hf0]; exact hfz)]
      rw [core_frac _ _ hF]
      exact parse_Co s hs hp d hd h1 h01 hzf hz A R hA hR hAs hRs hr hR1 S hS hSs f hf0 hff (by rw [hfz]; rfl) w hg
    have hf1 : ((f : Int) == 0) = false := by simpa using hfz
    generalize hA2 : A ++ R.extract 1 (1 + f) = A2
    generalize hR2 : R.extract (1 + f) R.size = R2
    have hR2l : R2.data.toList = S.data.toList.drop f := by rw [← hR2, ext_to, hSl, List.drop_drop]
    generalize hFF : S.data.toList.take f = F
    have hF : fracP (s.data.toList.drop (nDig s.data.toList)) = some (F, R2.data.toList) := by
      rw [hd, ← hRl]; unfold fracP; rw [if_pos hRh, ← hSl, if_neg (by rw [hf0]; exact hfz), hf0, hR2l, hFF]
    have hA2l : A2.data.toList = A.data.toList ++ F := by rw [← hA2, ByteArray.data_append, Array.toList_append, ext_mid, ← hSl, hFF]
    have hAF : s.data.toList.take d ++ F = A2.data.toList := by rw [hA2l, hAl]
    have hFn : (F.length : Int) = f := by
      rw [← hFF, List.length_take, ← size_list]; omega
    have hAD : AllDig A2.data.toList := by
      rw [hA2l, ← hFF, ← hf0]; exact allDig_append hAd (allDig_take _)
    have hA2s : A2.size ≤ 2305843009213693952 := by rw [size_list, hA2l, List.length_append, ← size_list]; omega
    have hR2s : R2.size ≤ 2305843009213693952 := by rw [size_list, hR2l, List.length_drop, ← size_list]; omega
    cases hx : expoP R2.data.toList with
    | none =>
      rw [core_expo _ _ _ _ hF hx]
      exact parse_Dof s hs hp d hd h1 h01 hzf hz A R hA hR hAs hRs hr hR1 S hS hSs f hf0 hff hf1 A2 R2 hA2 hR2 hA2s hR2s 0 (expoN_of_none hx) (by omega) (by omega) w hg
    | some p =>
      obtain ⟨en, x⟩ := p
      rw [core_good _ _ _ _ x en (by rw [hd]; exact hnb) hF hx]
      have hal : AllDig A2.data.toList := hAD
      rw [hd, hAF]
      generalize hL : (⟨(Lib.trimLeftB A2.data.toList 48).toArray⟩ : ByteArray) = L
      generalize hT : (⟨(Lib.trimRightB L.data.toList 48).toArray⟩ : ByteArray) = T
      have hLl : Lib.trimLeftB A2.data.toList 48 = L.data.toList := by rw [← hL]
      have hTl : Lib.trimRightB L.data.toList 48 = T.data.toList := by rw [← hT]
      obtain ⟨g1, g2, g3, g4, g5, g6⟩ := trim_val _ hal _ _ hLl hTl
      have hLs : L.size ≤ A2.size := by rw [size_list, size_list]; exact g1
      have hTs : T.size ≤ L.size := by rw [size_list, size_list]; exact g2
      have e0 := sg_lo en x
      have e1 := sg_hi en x
      have he := expoN_of_some hx
      by_cases hT0 : T.data.toList = []
      · rw [g5 hT0, norm_zero]
        exact parse_Eof s hs hp d hd h1 h01 hzf hz A R hA hR hAs hRs hr hR1 S hS hSs f hf0 hff hf1 A2 R2 hA2 hR2 hA2s hR2s _ he e0 e1 L T hL hT hLs hTs (empty_list T hT0) w hg
      · obtain ⟨g7, g8⟩ := g6 hT0
        have hTe := isEmpty_list T hT0
        have hT1 : 0 < T.size := by
          rw [size_list]; cases h2 : T.data.toList with
          | nil => exact absurd h2 hT0
          | cons _ _ => simp
        rw [g4, norm_shift]
        by_cases h18 : 18 < T.size
        · have g9 : 10 ^ 18 ≤ 10 ^ (T.data.toList.length - 1) := Nat.pow_le_pow_right (by omega) (by rw [← size_list]; omega)
          rw [norm_eleven _ _ _ g7 (by omega)]
          exact parse_Fof s hs hp d hd h1 h01 hzf hz A R hA hR hAs hRs hr hR1 S hS hSs f hf0 hff hf1 A2 R2 hA2 hR2 hA2s hR2s _ he e0 e1 L T hL hT hLs hTs hTe h18 w hg
        · have q := parse_Gof s hs hp d hd h1 h01 hzf hz A R hA hR hAs hRs hr hR1 S hS hSs f hf0 hff hf1 A2 R2 hA2 hR2 hA2s hR2s _ he e0 e1 L T hL hT hLs hTs hTe hT1 (by omega) (allDig_get T g3) w hg
          rw [← size_list, ← size_list, show sg en (clampN x) - (F.length : Int) + ((L.size - T.size : Nat) : Int) = (sg en (clampN x) - f) + L.size - T.size by rw [hFn]; omega]
          exact q
  · have hr : Lib.hasPrefix R.data.toList [46] = false := by simpa using hr
    have hF : fracP (s.data.toList.drop (nDig s.data.toList)) = some ([], R.data.toList) := by
      rw [hd, ← hRl]; unfold fracP; rw [if_neg (head_not_pre hr)]
    have hAF : s.data.toList.take d ++ [] = A.data.toList := by rw [hAl, List.append_nil]
    have hAD := hAd
    have hFn : ((([] : List UInt8).length : Nat) : Int) = 0 := rfl
    cases hx : expoP R.data.toList with
    | none =>
      rw [core_expo _ _ _ _ hF hx]
      exact parse_Do s hs hp d hd h1 h01 hzf hz A R hA hR hAs hRs hr 0 (expoN_of_none hx) (by omega) (by omega) w hg
    | some p =>
      obtain ⟨en, x⟩ := p
      rw [core_good _ _ _ _ x en (by rw [hd]; exact hnb) hF hx]
      have hal : AllDig A.data.toList := hAD
      rw [hd, hAF]
      generalize hL : (⟨(Lib.trimLeftB A.data.toList 48).toArray⟩ : ByteArray) = L
      generalize hT : (⟨(Lib.trimRightB L.data.toList 48).toArray⟩ : ByteArray) = T
      have hLl : Lib.trimLeftB A.data.toList 48 = L.data.toList := by rw [← hL]
      have hTl : Lib.trimRightB L.data.toList 48 = T.data.toList := by rw [← hT]
      obtain ⟨g1, g2, g3, g4, g5, g6⟩ := trim_val _ hal _ _ hLl hTl
      have hLs : L.size ≤ A.size := by rw [size_list, size_list]; exact g1
      have hTs : T.size ≤ L.size := by rw [size_list, size_list]; exact g2
      have e0 := sg_lo en x
      have e1 := sg_hi en x
      have he := expoN_of_some hx
      by_cases hT0 : T.data.toList = []
      · rw [g5 hT0, norm_zero]
        exact parse_Eo s hs hp d hd h1 h01 hzf hz A R hA hR hAs hRs hr _ he e0 e1 L T hL hT hLs hTs (empty_list T hT0) w hg
      · obtain ⟨g7, g8⟩ := g6 hT0
        have hTe := isEmpty_list T hT0
        have hT1 : 0 < T.size := by
          rw [size_list]; cases h2 : T.data.toList with
          | nil => exact absurd h2 hT0
          | cons _ _ => simp
        rw [g4, norm_shift]
        by_cases h18 : 18 < T.size
        · have g9 : 10 ^ 18 ≤ 10 ^ (T.data.toList.length - 1) := Nat.pow_le_pow_right (by omega) (by rw [← size_list]; omega)
          rw [norm_eleven _ _ _ g7 (by omega)]
          exact parse_Fo s hs hp d hd h1 h01 hzf hz A R hA hR hAs hRs hr _ he e0 e1 L T hL hT hLs hTs hTe h18 w hg
        · have q := parse_Go s hs hp d hd h1 h01 hzf hz A R hA hR hAs hRs hr _ he e0 e1 L T hL hT hLs hTs hTe hT1 (by omega) (allDig_get T g3) w hg
          rw [← size_list, ← size_list, show sg en (clampN x) - ((([] : List UInt8).length : Nat) : Int) + ((L.size - T.size : Nat) : Int) = sg en (clampN x) + L.size - T.size by rw [hFn]; omega]
          exact q
theorem parse_core_n (s : ByteArray) (hs : s.size ≤ 2305843009213693952) (U : ByteArray) (hU : s.extract 1 s.size = U) (hs1 : 0 < s.size) (hus : U.size ≤ s.size) (hp : Lib.hasPrefix s.data.toList [45] = true) (w : World) (hg : Glob w) :
    Calls Tryd.prog 25 #[.string s] w fun r w' => r = .returned (numRes (coreN true U.data.toList)) ∧ Below w.heap.size w w' := by
  generalize hd : nDig U.data.toList = d
  have h1 : d ≤ U.size := by rw [← hd, size_list]; exact nDig_le _
  by_cases hz0 : d = 0
  · rw [core_bad _ _ (.inl (by rw [hd, hz0]))]; exact parse_An s hs U hU hs1 hus hp d hd (by rw [hz0]; rfl) w hg
  have h01 : 1 ≤ d := by omega
  have hU0 : 0 < U.size := by omega
  have hh := head_list U hU0
  have hzf : ((d : Int) == 0) = false := by simpa using hz0
  by_cases hb : 1 < d ∧ U[0] = 48
  · rw [core_bad _ _ (.inr ⟨by rw [hd]; exact hb.1, by rw [hh, hb.2]⟩)]; exact parse_Bn s hs U hU hs1 hus hp d hd h1 hzf hb.1 (by rw [hb.2]; rfl) w hg
  have hnb : ¬ (d = 0 ∨ (1 < d ∧ U.data.toList.head? = some 48)) := by
    rw [hh]; rintro (h | ⟨h, h2⟩)
    · exact hz0 h
    · exact hb ⟨h, Option.some.inj h2⟩
  have hz : ¬ 1 < d ∨ (1 < d ∧ ((U[0].toNat : Int) == 48) = false) := by
    by_cases hlt : 1 < d
    · right; refine ⟨hlt, ?_⟩
      have : U[0].toNat ≠ 48 := fun h => hb ⟨hlt, UInt8.toNat.inj h⟩
      simp; omega
    · exact .inl hlt
  generalize hA : U.extract 0 d = A
  generalize hR : U.extract d U.size = R
  have hAl : A.data.toList = U.data.toList.take d := by rw [← hA, ext_from]
  have hRl : R.data.toList = U.data.toList.drop d := by rw [← hR, ext_to]
  have hAn : A.size = d := by rw [size_list, hAl, List.length_take, ← size_list]; omega
  have hRn : R.size = U.size - d := by rw [size_list, hRl, List.length_drop, ← size_list]
  have hAs : A.size ≤ 2305843009213693952 := by omega
  have hRs : R.size ≤ 2305843009213693952 := by omega
  have hAd : AllDig A.data.toList := by rw [hAl, ← hd]; exact allDig_take _
  by_cases hr : Lib.hasPrefix R.data.toList [46] = true
  · have hR1 : 0 < R.size := by
      have := congrArg List.length (pre_of hr); rw [size_list]; simp at this; simp; omega
    have hRh := head_of_pre hr
    generalize hS : R.extract 1 R.size = S
    have hSl : S.data.toList = R.data.toList.drop 1 := by rw [← hS, ext_to]
    have hSn : S.size = R.size - 1 := by rw [size_list, hSl, List.length_drop, ← size_list]
    have hSs : S.size ≤ 2305843009213693952 := by omega
    generalize hf0 : nDig S.data.toList = f
    have hff : f + 1 ≤ R.size := by have := nDig_le S.data.toList; rw [← size_list] at this; omega
    by_cases hfz : f = 0
    · have hF : fracP (U.data.toList.drop (nDig U.data.toList)) = none := by
        rw [hd, ← hRl]; unfold fracP; rw [if_pos hRh, ← hSl, if_pos (by rw [hf0]; exact hfz)]
      rw [core_frac _ _ hF]
      exact parse_Cn s hs U hU hs1 hus hp d hd h1 h01 hzf hz A R hA hR hAs hRs hr hR1 S hS hSs f hf0 hff (by rw [hfz]; rfl) w hg
    have hf1 : ((f : Int) == 0) = false := by simpa using hfz
    generalize hA2 : A ++ R.extract 1 (1 + f) = A2
    generalize hR2 : R.extract (1 + f) R.size = R2
    have hR2l : R2.data.toList = S.data.toList.drop f := by rw [← hR2, ext_to, hSl, List.drop_drop]
    generalize hFF : S.data.toList.take f = F
    have hF : fracP (U.data.toList.drop (nDig U.data.toList)) = some (F, R2.data.toList) := by
      rw [hd, ← hRl]; unfold fracP; rw [if_pos hRh, ← hSl, if_neg (by rw [hf0]; exact hfz), hf0, hR2l, hFF]
    have hA2l : A2.data.toList = A.data.toList ++ F := by rw [← hA2, ByteArray.data_append, Array.toList_append, ext_mid, ← hSl, hFF]
    have hAF : U.data.toList.take d ++ F = A2.data.toList := by rw [hA2l, hAl]
    have hFn : (F.length : Int) = f := by
      rw [← hFF, List.length_take, ← size_list]; omega
    have hAD : AllDig A2.data.toList := by
      rw [hA2l, ← hFF, ← hf0]; exact allDig_append hAd (allDig_take _)
    have hA2s : A2.size ≤ 2305843009213693952 := by rw [size_list, hA2l, List.length_append, ← size_list]; omega
    have hR2s : R2.size ≤ 2305843009213693952 := by rw [size_list, hR2l, List.length_drop, ← size_list]; omega
    cases hx : expoP R2.data.toList with
    | none =>
      rw [core_expo _ _ _ _ hF hx]
      exact parse_Dnf s hs U hU hs1 hus hp d hd h1 h01 hzf hz A R hA hR hAs hRs hr hR1 S hS hSs f hf0 hff hf1 A2 R2 hA2 hR2 hA2s hR2s 0 (expoN_of_none hx) (by omega) (by omega) w hg
    | some p =>
      obtain ⟨en, x⟩ := p
      rw [core_good _ _ _ _ x en (by rw [hd]; exact hnb) hF hx]
      have hal : AllDig A2.data.toList := hAD
      rw [hd, hAF]
      generalize hL : (⟨(Lib.trimLeftB A2.data.toList 48).toArray⟩ : ByteArray) = L
      generalize hT : (⟨(Lib.trimRightB L.data.toList 48).toArray⟩ : ByteArray) = T
      have hLl : Lib.trimLeftB A2.data.toList 48 = L.data.toList := by rw [← hL]
      have hTl : Lib.trimRightB L.data.toList 48 = T.data.toList := by rw [← hT]
      obtain ⟨g1, g2, g3, g4, g5, g6⟩ := trim_val _ hal _ _ hLl hTl
      have hLs : L.size ≤ A2.size := by rw [size_list, size_list]; exact g1
      have hTs : T.size ≤ L.size := by rw [size_list, size_list]; exact g2
      have e0 := sg_lo en x
      have e1 := sg_hi en x
      have he := expoN_of_some hx
      by_cases hT0 : T.data.toList = []
      · rw [g5 hT0, norm_zero]
        exact parse_Enf s hs U hU hs1 hus hp d hd h1 h01 hzf hz A R hA hR hAs hRs hr hR1 S hS hSs f hf0 hff hf1 A2 R2 hA2 hR2 hA2s hR2s _ he e0 e1 L T hL hT hLs hTs (empty_list T hT0) w hg
      · obtain ⟨g7, g8⟩ := g6 hT0
        have hTe := isEmpty_list T hT0
        have hT1 : 0 < T.size := by
          rw [size_list]; cases h2 : T.data.toList with
          | nil => exact absurd h2 hT0
          | cons _ _ => simp
        rw [g4, norm_shift]
        by_cases h18 : 18 < T.size
        · have g9 : 10 ^ 18 ≤ 10 ^ (T.data.toList.length - 1) := Nat.pow_le_pow_right (by omega) (by rw [← size_list]; omega)
          rw [norm_eleven _ _ _ g7 (by omega)]
          exact parse_Fnf s hs U hU hs1 hus hp d hd h1 h01 hzf hz A R hA hR hAs hRs hr hR1 S hS hSs f hf0 hff hf1 A2 R2 hA2 hR2 hA2s hR2s _ he e0 e1 L T hL hT hLs hTs hTe h18 w hg
        · have q := parse_Gnf s hs U hU hs1 hus hp d hd h1 h01 hzf hz A R hA hR hAs hRs hr hR1 S hS hSs f hf0 hff hf1 A2 R2 hA2 hR2 hA2s hR2s _ he e0 e1 L T hL hT hLs hTs hTe hT1 (by omega) (allDig_get T g3) w hg
          rw [← size_list, ← size_list, show sg en (clampN x) - (F.length : Int) + ((L.size - T.size : Nat) : Int) = (sg en (clampN x) - f) + L.size - T.size by rw [hFn]; omega]
          exact q
  · have hr : Lib.hasPrefix R.data.toList [46] = false := by simpa using hr
    have hF : fracP (U.data.toList.drop (nDig U.data.toList)) = some ([], R.data.toList) := by
      rw [hd, ← hRl]; unfold fracP; rw [if_neg (head_not_pre hr)]
    have hAF : U.data.toList.take d ++ [] = A.data.toList := by rw [hAl, List.append_nil]
    have hAD := hAd
    have hFn : ((([] : List UInt8).length : Nat) : Int) = 0 := rfl
    cases hx : expoP R.data.toList with
    | none =>
      rw [core_expo _ _ _ _ hF hx]
      exact parse_Dn s hs U hU hs1 hus hp d hd h1 h01 hzf hz A R hA hR hAs hRs hr 0 (expoN_of_none hx) (by omega) (by omega) w hg
    | some p =>
      obtain ⟨en, x⟩ := p
      rw [core_good _ _ _ _ x en (by rw [hd]; exact hnb) hF hx]
      have hal : AllDig A.data.toList := hAD
      rw [hd, hAF]
      generalize hL : (⟨(Lib.trimLeftB A.data.toList 48).toArray⟩ : ByteArray) = L
      generalize hT : (⟨(Lib.trimRightB L.data.toList 48).toArray⟩ : ByteArray) = T
      have hLl : Lib.trimLeftB A.data.toList 48 = L.data.toList := by rw [← hL]
      have hTl : Lib.trimRightB L.data.toList 48 = T.data.toList := by rw [← hT]
      obtain ⟨g1, g2, g3, g4, g5, g6⟩ := trim_val _ hal _ _ hLl hTl
      have hLs : L.size ≤ A.size := by rw [size_list, size_list]; exact g1
      have hTs : T.size ≤ L.size := by rw [size_list, size_list]; exact g2
      have e0 := sg_lo en x
      have e1 := sg_hi en x
      have he := expoN_of_some hx
      by_cases hT0 : T.data.toList = []
      · rw [g5 hT0, norm_zero]
        exact parse_En s hs U hU hs1 hus hp d hd h1 h01 hzf hz A R hA hR hAs hRs hr _ he e0 e1 L T hL hT hLs hTs (empty_list T hT0) w hg
      · obtain ⟨g7, g8⟩ := g6 hT0
        have hTe := isEmpty_list T hT0
        have hT1 : 0 < T.size := by
          rw [size_list]; cases h2 : T.data.toList with
          | nil => exact absurd h2 hT0
          | cons _ _ => simp
        rw [g4, norm_shift]
        by_cases h18 : 18 < T.size
        · have g9 : 10 ^ 18 ≤ 10 ^ (T.data.toList.length - 1) := Nat.pow_le_pow_right (by omega) (by rw [← size_list]; omega)
          rw [norm_eleven _ _ _ g7 (by omega)]
          exact parse_Fn s hs U hU hs1 hus hp d hd h1 h01 hzf hz A R hA hR hAs hRs hr _ he e0 e1 L T hL hT hLs hTs hTe h18 w hg
        · have q := parse_Gn s hs U hU hs1 hus hp d hd h1 h01 hzf hz A R hA hR hAs hRs hr _ he e0 e1 L T hL hT hLs hTs hTe hT1 (by omega) (allDig_get T g3) w hg
          rw [← size_list, ← size_list, show sg en (clampN x) - ((([] : List UInt8).length : Nat) : Int) + ((L.size - T.size : Nat) : Int) = sg en (clampN x) + L.size - T.size by rw [hFn]; omega]
          exact q
/-- the number that a text is -/
theorem num_Parse (s : ByteArray) (hs : s.size ≤ 2305843009213693952) (w : World) (hg : Glob w) :
    Calls Tryd.prog 25 #[.string s] w fun r w' => r = .returned (numRes (parseN s.data.toList)) ∧ Below w.heap.size w w' := by
  unfold parseN
  by_cases hp : Lib.hasPrefix s.data.toList [45] = true
  · rw [if_pos (head_of_pre hp)]
    have h0 : 0 < s.size := by
      have := congrArg List.length (pre_of hp); rw [size_list]; simp at this; simp; omega
    have := parse_core_n s hs (s.extract 1 s.size) rfl h0 (by rw [size_list, ext_to, List.length_drop, ← size_list]; omega) hp w hg
    rwa [ext_to] at this
  · have hp : Lib.hasPrefix s.data.toList [45] = false := by simpa using hp
    rw [if_neg (head_not_pre hp)]
    exact parse_core_o s hs hp w hg

end Go.Proofs.YtljemfajjeoecaaDoor
