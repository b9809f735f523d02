/- Lemmas and contracts for the laws CalcWith, part 49 of 50: WithJ. Conditions: those that each lemma names. -/
import Derived.Test.YtnkokhpadcgfbaaGreatDoorPw48
import Derived.Test.YtnkokhpadcgfbaaGreatDoorPw46
import Derived.Test.YtnkokhpadcgfbaaGreatDoorPw44
namespace Go.Proofs.YtnkokhpadcgfbaaGreatDoor
open Go Go.RowKit Go.Proofs Th
def hasB : ByteArray := ⟨#[104, 97, 115]⟩
def joinNB : ByteArray := ⟨#[106, 111, 105, 110]⟩
def withJ (name : ByteArray) (a b : JV) : JV × Int :=
  if name = hasB then (if badL [a, b] ≠ 0 then (zeroJ, badL [a, b]) else if a.k = 6 ∧ b.k = 4 then (truthV (hasK a.ks b.s), 0) else if a.k = 5 ∧ b.k = 3 then (truthV (hasN a.l.length b.m b.e), 0) else (zeroJ, 80))
  else if name = joinNB then (if badL [a, b] ≠ 0 then (zeroJ, badL [a, b]) else if a.k = 5 ∧ b.k = 4 then joinD a.l b.s else (zeroJ, 80))
  else (zeroJ, 100)
theorem name_ne {name : ByteArray} {l : List UInt8} (h : name ≠ ⟨l.toArray⟩) : (name.toList == l) = false := by
  rw [beq_eq_false_iff_ne, ba_list]
  intro e
  apply h
  apply ba_inj
  rw [e]
theorem done_joinC {l : List JV} {gap : ByteArray} (hs : Lib.validD gap.data.toList = true) (h : allL l = true) : doneJ (joinC l gap) = joinD l gap := by
  unfold joinC joinD
  by_cases ha : l.any (fun v => decide (5 ≤ v.k)) = true
  · rw [if_pos ha, if_pos ha]; rfl
  · rw [if_neg ha, if_neg ha]
    by_cases hb : 32768 + gap.size < jsize gap l
    · rw [if_pos hb, join_big hs l h hb]; rfl
    · rw [if_neg hb]
theorem badL_both {a b : JV} (h : badL [a, b] = 0) : rightJ a = 0 ∧ rightJ b = 0 := by
  rw [badL_two] at h
  by_cases ha : rightJ a ≠ 0
  · rw [if_pos ha] at h; exact absurd h ha
  · rw [if_neg ha] at h
    by_cases hb : rightJ b ≠ 0
    · rw [if_pos hb] at h; exact absurd h hb
    · exact ⟨by omega, by omega⟩
theorem kind_le {v : JV} (h : allJ v = true) : v.k ≤ 6 := by
  obtain ⟨k9, m9, e9, s9, l9, ks9⟩ := v
  rw [show allJ (.mk k9 m9 e9 s9 l9 ks9) = (okOne (.mk k9 m9 e9 s9 l9 ks9) && allL l9) from rfl, Bool.and_eq_true] at h
  exact (okF_of h.1).kk.2
theorem list_right {a : JV} (h : rightJ a = 0) : allL a.l = true ∧ ∀ j (hj : j < a.l.length), a.l[j].k ≤ 6 := by
  obtain ⟨k, m, e, s, l, ks⟩ := a
  have h0 := (right_ok h).1
  rw [show allJ (.mk k m e s l ks) = (okOne (.mk k m e s l ks) && allL l) from rfl, Bool.and_eq_true] at h0
  refine ⟨h0.2, fun j hj => ?_⟩
  have h1 := allL_mem l l[j] h0.2 (List.getElem_mem hj)
  show l[j].k ≤ 6
  exact kind_le h1
theorem JAt.lens {W : World} {B : Nat} {t : JV} {k m e : Int} {s : ByteArray} {A : Option Addr} {n c : Nat} {A' : Option Addr} {n' c' : Nat} (h : JAt W B t (cells6 k m e s A n c A' n' c')) : n = t.l.length ∧ n' = t.ks.length ∧ ValsAt W B A c t.l ∧ StrsAt W B A' c' t.ks := by
  obtain ⟨k9, m9, e9, s9, l9, ks9⟩ := t
  obtain ⟨A9, c9, B9, d9, hcs, _, _, _, _, hS, hV⟩ := JAt.open h
  simp only [cells6, List.cons.injEq, Value.slice.injEq, and_true] at hcs
  obtain ⟨_, _, _, _, ⟨rfl, rfl, rfl⟩, rfl, rfl, rfl⟩ := hcs
  exact ⟨rfl, rfl, hV, hS⟩
theorem size_l (a : JV) : sizeL a.l ≤ sizeJ a ∧ a.l.length ≤ sizeJ a ∧ a.s.size ≤ sizeJ a := by
  have h := size_parts a
  have h2 := sizeL_len a.l
  omega
theorem calc_with (name : ByteArray) (a b : JV) (w : World) (cs cs2 : List Value) (hG : GlobW w) (hJ : JAt w w.heap.size a cs) (hJ2 : JAt w w.heap.size b cs2) (hz : sizeJ a + sizeJ b ≤ 1000) :
    Calls Tryz.prog 16 #[.string name, .agg cs.toArray, .agg cs2.toArray] w fun r w' => OpPost w r w' (withJ name a b) := by
  obtain ⟨k, m, e, s, A, n, c, A', n', c', rfl⟩ := hJ.inn.cells
  obtain ⟨k2, m2, e2, s2, B, n2, d, B', n2', d', rfl⟩ := hJ2.inn.cells
  obtain ⟨p1, p2, p3, p4⟩ := hJ.parts
  obtain ⟨q1, q2, q3, q4⟩ := hJ2.parts
  obtain ⟨hl, hks, hV, hS⟩ := hJ.lens
  have hza := size_l a
  have hzb := size_l b
  unfold withJ
  by_cases h1 : name = hasB
  · subst h1
    rw [if_pos rfl]
    by_cases hbl : badL [a, b] ≠ 0
    · rw [if_pos hbl]
      exact with_bad_has a b w _ _ _ _ _ _ _ _ _ _ _ _ _ _ _ _ _ _ _ _ hG hJ hJ2 _ (by simpa using hbl) rfl
    · rw [if_neg hbl]
      obtain ⟨ha, hb⟩ := badL_both (a := a) (b := b) (by omega)
      rw [p1, q1, q2, q3, q4, ← hl]
      by_cases h6 : k = 6 ∧ k2 = 4
      · rw [if_pos h6]
        exact with_has_map a b w _ _ _ _ _ _ _ _ _ _ _ _ _ _ _ _ _ _ _ _ hG hJ hJ2 ha hb h6.1 h6.2
      · rw [if_neg h6]
        by_cases h5 : k = 5 ∧ k2 = 3
        · rw [if_pos h5]
          exact with_has_list a b w _ _ _ _ _ _ _ _ _ _ _ _ _ _ _ _ _ _ _ _ hG hJ hJ2 ha hb h5.1 h5.2 (by omega)
        · rw [if_neg h5]
          exact with_kind_has a b w _ _ _ _ _ _ _ _ _ _ _ _ _ _ _ _ _ _ _ _ hG hJ hJ2 ha hb (by rw [Bool.eq_false_iff]; intro h; simp at h; exact h6 h) (by rw [Bool.eq_false_iff]; intro h; simp at h; exact h5 h)
  · rw [if_neg h1]
    by_cases h2 : name = joinNB
    · subst h2
      rw [if_pos rfl]
      by_cases hbl : badL [a, b] ≠ 0
      · rw [if_pos hbl]
        exact with_bad_join a b w _ _ _ _ _ _ _ _ _ _ _ _ _ _ _ _ _ _ _ _ hG hJ hJ2 _ (by simpa using hbl) rfl
      · rw [if_neg hbl]
        obtain ⟨ha, hb⟩ := badL_both (a := a) (b := b) (by omega)
        rw [p1, q1, q4]
        by_cases h5 : k = 5 ∧ k2 = 4
        · rw [if_pos h5]
          have hlr := list_right ha
          have hvg : Lib.validD s2.data.toList = true := by rw [← q4]; exact text_valid (right_ok hb).1
          have hjz : (joinC a.l s2).2 = 0 → sizeJ (joinC a.l s2).1 ≤ 1000000 := by
            unfold joinC
            split
            · intro h; cases h
            · split
              · intro h; cases h
              · intro _
                show 1 + (joinB (a.l.map jpart) s2).size + 0 + 0 ≤ 1000000
                have h1 : (joinB (a.l.map jpart) s2).size = (Lib.join ((a.l.map jpart).map (·.data.toList)) s2.data.toList).length := by unfold joinB; rw [ByteArray.size]; simp
                have h2 := join_size s2 a.l (by omega)
                omega
          have h := with_join3 a b w _ _ _ _ _ _ _ _ _ _ _ _ _ _ _ _ _ _ _ _ hG hJ hJ2 ha hb h5.1 h5.2 (joinC a.l s2).1 (joinC a.l s2).2 hjz (fun W hW => by
            rw [hl]
            exact calc_join2 a.l s2 A c W (by omega) hlr.2 hlr.1 (by omega) (by rw [← q4]; omega) (hG.below hW) ((hV.below hW (Nat.le_refl _)).more hW.size))
          rw [← done_joinC hvg hlr.1]
          exact h
        · rw [if_neg h5]
          exact with_kind_join a b w _ _ _ _ _ _ _ _ _ _ _ _ _ _ _ _ _ _ _ _ hG hJ hJ2 ha hb (by rw [Bool.eq_false_iff]; intro h; simp at h; exact h5 h)
    · rw [if_neg h2]
      exact with_name name a b w _ _ _ _ _ _ _ _ _ _ _ _ _ _ _ _ _ _ _ _ hG hJ hJ2 (name_ne h1) (name_ne h2)
theorem ref_with (name : ByteArray) (a b : JV) (w : World) (cs cs2 : List Value) (hJ : JAt w w.heap.size a cs) (hJ2 : JAt w w.heap.size b cs2) (hz : sizeJ a + sizeJ b ≤ 1000) :
    Calls Tryz.prog 17 #[.string name, .agg cs.toArray, .agg cs2.toArray] w fun r w' => RefPost w r w' (withJ name a b) := by
  obtain ⟨k, m, e, s, A, n, c, A', n', c', rfl⟩ := hJ.inn.cells
  obtain ⟨k2, m2, e2, s2, B, n2, d, B', n2', d', rfl⟩ := hJ2.inn.cells
  obtain ⟨p1, p2, p3, p4⟩ := hJ.parts
  obtain ⟨q1, q2, q3, q4⟩ := hJ2.parts
  obtain ⟨hl, hks, hV, hS⟩ := hJ.lens
  have hza := size_l a
  have hzb := size_l b
  have hca : countJ a ≤ 1000000 := Nat.le_trans (countJ_le a) (by omega)
  have hcb : countJ b ≤ 1000000 := Nat.le_trans (countJ_le b) (by omega)
  unfold withJ
  by_cases h1 : name = hasB
  · subst h1
    rw [if_pos rfl]
    by_cases hbl : badL [a, b] ≠ 0
    · rw [if_pos hbl]
      exact rwith_bad_has a b w _ _ _ _ _ _ _ _ _ _ _ _ _ _ _ _ _ _ _ _ hJ hJ2 hca hcb _ (by simpa using hbl) rfl
    · rw [if_neg hbl]
      obtain ⟨ha, hb⟩ := badL_both (a := a) (b := b) (by omega)
      rw [p1, q1, q2, q3, q4, ← hl]
      by_cases h6 : k = 6 ∧ k2 = 4
      · rw [if_pos h6]
        exact rwith_has_map a b w _ _ _ _ _ _ _ _ _ _ _ _ _ _ _ _ _ _ _ _ hJ hJ2 hca hcb ha hb h6.1 h6.2
      · rw [if_neg h6]
        by_cases h5 : k = 5 ∧ k2 = 3
        · rw [if_pos h5]
          exact rwith_has_list a b w _ _ _ _ _ _ _ _ _ _ _ _ _ _ _ _ _ _ _ _ hJ hJ2 hca hcb ha hb h5.1 h5.2 (by omega)
        · rw [if_neg h5]
          exact rwith_kind_has a b w _ _ _ _ _ _ _ _ _ _ _ _ _ _ _ _ _ _ _ _ hJ hJ2 hca hcb ha hb (by rw [Bool.eq_false_iff]; intro h; simp at h; exact h6 h) (by rw [Bool.eq_false_iff]; intro h; simp at h; exact h5 h)
  · rw [if_neg h1]
    by_cases h2 : name = joinNB
    · subst h2
      rw [if_pos rfl]
      by_cases hbl : badL [a, b] ≠ 0
      · rw [if_pos hbl]
        exact rwith_bad_join a b w _ _ _ _ _ _ _ _ _ _ _ _ _ _ _ _ _ _ _ _ hJ hJ2 hca hcb _ (by simpa using hbl) rfl
      · rw [if_neg hbl]
        obtain ⟨ha, hb⟩ := badL_both (a := a) (b := b) (by omega)
        rw [p1, q1, q4]
        by_cases h5 : k = 5 ∧ k2 = 4
        · rw [if_pos h5]
          have hlr := list_right ha
          refine rwith_join a b w _ _ _ _ _ _ _ _ _ _ _ _ _ _ _ _ _ _ _ _ hJ hJ2 hca hcb ha hb h5.1 h5.2 (by omega) (fun hk => ?_) (by rw [← q4]; omega)
          have h3 := jsize_few s2 a.l hlr.1 (fun v hv => by
            obtain ⟨i, hi, rfl⟩ := List.getElem_of_mem hv
            have := hk i hi
            exact ⟨by omega, by omega⟩)
          have h4 := few_prod a.l.length s2.size (by rw [← q4]; omega)
          omega
        · rw [if_neg h5]
          exact rwith_kind_join a b w _ _ _ _ _ _ _ _ _ _ _ _ _ _ _ _ _ _ _ _ hJ hJ2 hca hcb ha hb (by rw [Bool.eq_false_iff]; intro h; simp at h; exact h5 h)
    · rw [if_neg h2]
      exact rwith_name name a b w _ _ _ _ _ _ _ _ _ _ _ _ _ _ _ _ _ _ _ _ hJ hJ2 (name_ne h1) (name_ne h2)
end Go.Proofs.YtnkokhpadcgfbaaGreatDoor
