/- Lemmas and contracts for the laws CalcWith, part 42 of 50: WithMath. Conditions: those that each lemma names. -/
import Derived.Test.YtnkokhpadcgfbaaGreatDoorPw32
import Derived.Test.YtnkokhpadcgfbaaGreatDoorPw40
import Derived.Test.YtnkokhpadcgfbaaGreatDoorPw12
import Derived.Test.YtnkokhpadcgfbaaGreatDoorPw35
import Derived.Shelf.Spec.SearchS
namespace Th
open Go Go.Lib
theorem bodyD_ge : ∀ (n : Nat) (l : List UInt8), l.length ≤ n → validD l = true → l.length ≤ (bodyD l).length := by
  intro n
  induction n with
  | zero => intro l h _; omega
  | succ n ih =>
    intro l h hv
    by_cases hne : l = []
    · subst hne; exact Nat.zero_le _
    · rw [validD_step l hne] at hv
      by_cases hb : badD l
      · rw [if_pos hb] at hv; cases hv
      · rw [if_neg hb] at hv
        have hw := decodeL_width l
        have hle := decodeL_le l hne
        have hl : 0 < l.length := List.length_pos_iff.2 hne
        have hi := ih (l.drop (decodeL l).2) (by rw [List.length_drop]; omega) hv
        have he : encodeRune ((decodeL l).1 : Int) = l.take (decodeL l).2 := encode_decode l hne hb
        have hlen := congrArg List.length he
        rw [List.length_take, Nat.min_eq_left hle] at hlen
        rw [bodyD_step l hne, List.length_append]
        rw [List.length_drop] at hi
        have key : (decodeL l).2 ≤ (escS (decodeL l).1).length := by
          have small : (decodeL l).1 < 128 → (decodeL l).2 = 1 := fun h1 => by
            rw [← hlen]
            unfold encodeRune
            rw [encodeRuneZ_one (by omega) (by omega)]
            rfl
          unfold escS
          by_cases c1 : (decodeL l).1 = 34 ∨ (decodeL l).1 = 92
          · rw [if_pos c1, small (by omega)]; simp
          · rw [if_neg c1]
            by_cases c2 : (decodeL l).1 < 32
            · rw [small (by omega)]
              repeat' split
              all_goals first | (simp; done) | omega
            · rw [if_neg (by omega), if_neg (by omega), if_neg (by omega), if_neg (by omega), if_neg (by omega), if_neg c2]
              omega
        omega
theorem quoteD_ge {l : List UInt8} (hv : validD l = true) : l.length + 2 ≤ (quoteD l).length := by
  have := bodyD_ge _ l (Nat.le_refl _) hv
  unfold quoteD
  simp only [List.cons_append, List.length_cons, List.length_append, List.length_nil]
  omega
theorem keys_cut (x : ByteArray) : ∀ ks : List ByteArray, (kbs ks).Pairwise (· < ·) → ∃ k, k ≤ ks.length ∧ (∀ t, t < k → Op.bytesLess (ks.getD t x).data.toList x.data.toList = true) ∧ (∀ t, k ≤ t → Op.bytesLess (ks.getD t x).data.toList x.data.toList = false)
  | [], _ => ⟨0, Nat.le_refl _, fun _ h => absurd h (Nat.not_lt_zero _), fun t _ => by
      cases h : Op.bytesLess (([] : List ByteArray).getD t x).data.toList x.data.toList
      · rfl
      · exact absurd (bytesLess_lt _ _ h) (List.lt_irrefl _)⟩
  | a :: r, hp => by
    have hp2 := List.pairwise_cons.1 hp
    obtain ⟨k, hk, h1, h2⟩ := keys_cut x r hp2.2
    cases hax : Op.bytesLess a.data.toList x.data.toList
    · refine ⟨0, Nat.zero_le _, fun _ h => absurd h (Nat.not_lt_zero _), fun t _ => ?_⟩
      match t with
      | 0 => exact hax
      | t + 1 =>
        rw [List.getD_cons_succ]
        cases h : Op.bytesLess (r.getD t x).data.toList x.data.toList
        · rfl
        · exfalso
          have h3 := bytesLess_lt _ _ h
          by_cases ht : t < r.length
          · have hm : (r.getD t x).data.toList ∈ kbs r := by
              unfold kbs
              rw [List.getD_eq_getElem?_getD, List.getElem?_eq_getElem ht]
              exact List.mem_map.2 ⟨_, List.getElem_mem ht, rfl⟩
            have h4 := lt_bytesLess _ _ (List.lt_trans (hp2.1 _ hm) h3)
            have hax' : Op.bytesLess a.data.toList x.data.toList = false := hax
            rw [h4] at hax'; cases hax'
          · rw [List.getD_eq_getElem?_getD, List.getElem?_eq_none (by omega)] at h3
            exact List.lt_irrefl _ h3
    · refine ⟨k + 1, by simpa using hk, fun t ht => ?_, fun t ht => ?_⟩
      · match t with
        | 0 => exact hax
        | t + 1 => rw [List.getD_cons_succ]; exact h1 t (by omega)
      · match t, ht with
        | t + 1, ht => rw [List.getD_cons_succ]; exact h2 t (by omega)
def hasK (ks : List ByteArray) (x : ByteArray) : Bool := ks.any fun k => decide (k = x)
theorem has_key (ks : List ByteArray) (x : ByteArray) (hr : riseK ks = true) :
    decide (bsGo (fun t => Op.bytesLess (ks.getD t x).data.toList x.data.toList) ks.length 0 ks.length < ks.length ∧ ks.getD (bsGo (fun t => Op.bytesLess (ks.getD t x).data.toList x.data.toList) ks.length 0 ks.length) x = x) = hasK ks x := by
  obtain ⟨k, hk, h1, h2⟩ := keys_cut x ks ((riseK_iff ks).1 hr).2
  rw [bsGo_spec _ k h1 h2 _ _ _ (by omega) (Nat.zero_le _) hk]
  have hirr : Op.bytesLess x.data.toList x.data.toList = false := by
    cases h : Op.bytesLess x.data.toList x.data.toList
    · rfl
    · exact absurd (bytesLess_lt _ _ h) (List.lt_irrefl _)
  rw [Bool.eq_iff_iff, decide_eq_true_eq]
  unfold hasK
  rw [List.any_eq_true]
  constructor
  · rintro ⟨hlt, he⟩
    rw [List.getD_eq_getElem?_getD, List.getElem?_eq_getElem hlt] at he
    exact ⟨_, List.getElem_mem hlt, by simpa using he⟩
  · rintro ⟨y, hy, hyx⟩
    obtain rfl : y = x := by simpa using hyx
    obtain ⟨t, ht, rfl⟩ := List.getElem_of_mem hy
    have hgt : ks.getD t ks[t] = ks[t] := by rw [List.getD_eq_getElem?_getD, List.getElem?_eq_getElem ht]; rfl
    have hkt : k ≤ t := by
      rcases Nat.lt_or_ge t k with h | h
      · have := h1 t h; rw [hgt, hirr] at this; cases this
      · exact h
    have hkl : k < ks.length := by omega
    refine ⟨hkl, ?_⟩
    rcases Nat.lt_or_ge k t with h | h
    · exfalso
      have hp := List.pairwise_iff_getElem.1 ((riseK_iff ks).1 hr).2 k t (by unfold kbs; rw [List.length_map]; omega) (by unfold kbs; rw [List.length_map]; omega) h
      have e1 : (kbs ks)[k]'(by unfold kbs; rw [List.length_map]; omega) = ks[k].data.toList := by unfold kbs; rw [List.getElem_map]
      have e2 : (kbs ks)[t]'(by unfold kbs; rw [List.length_map]; omega) = ks[t].data.toList := by unfold kbs; rw [List.getElem_map]
      rw [e1, e2] at hp
      have h3 := h2 k (Nat.le_refl _)
      rw [List.getD_eq_getElem?_getD, List.getElem?_eq_getElem hkl] at h3
      have h4 := lt_bytesLess _ _ hp
      rw [show (some ks[k]).getD ks[t] = ks[k] from rfl, h4] at h3
      cases h3
    · obtain rfl : k = t := by omega
      exact hgt
end Th
namespace Go.Proofs.YtnkokhpadcgfbaaGreatDoor
open Go Go.RowKit Go.Proofs Th
def hasN (n : Nat) (m e : Int) : Bool := (List.range n).any fun i => decide (wholeN i = (m, e))
theorem whole_right (n : Nat) (h : n < 1000000000000000000) : right (wholeN n).1 (wholeN n).2 = true := by
  obtain ⟨m, k, _, e, hk, hf, hm⟩ := whole_form n h
  unfold wholeN
  rw [e]
  exact right_of_form hk hf hm
theorem V_whole (n : Nat) (h : n < 1000000000000000000) : V (wholeN n).1 (wholeN n).2 = (n : Int) * ((10 ^ 64 : Nat) : Int) := by
  obtain ⟨m, k, hn, e, hk, hf, hm⟩ := whole_form n h
  unfold wholeN V
  rw [e]
  show (m : Int) * ((10 ^ ((k : Int) + 64).toNat : Nat) : Int) = (n : Int) * ((10 ^ 64 : Nat) : Int)
  rw [show ((k : Int) + 64).toNat = k + 64 by omega, Nat.pow_add, hn, Int.natCast_mul, Int.natCast_mul, Int.mul_assoc]
theorem cmpN_V {m1 e1 m2 e2 : Int} (h1 : right m1 e1 = true) (h2 : right m2 e2 = true) : (cmpN m1 e1 m2 e2).1 = cmp3 (V m1 e1) (V m2 e2) := by
  unfold cmpN
  rw [h1, h2, ← cmpS_V h1 h2]
  rfl
theorem has_num {m e : Int} (hr : right m e = true) (n : Nat) (hn : n < 1000000000000000000) :
    (decide (0 ≤ e) && (decide ((cmpN 0 0 m e).1 ≤ 0) && decide ((cmpN m e (wholeN n).1 (wholeN n).2).1 < 0))) = hasN n m e := by
  rw [cmpN_V rfl hr, cmpN_V hr (whole_right n hn), V_whole n hn]
  rw [Bool.eq_iff_iff]
  unfold hasN
  simp only [Bool.and_eq_true, decide_eq_true_eq, List.any_eq_true, List.mem_range, cmp3_lt]
  have h0 : V 0 0 = 0 := by unfold V; rw [Int.zero_mul]
  have hle : cmp3 (V 0 0) (V m e) ≤ 0 ↔ 0 ≤ m := by
    rw [cmp3_antisymm, h0]
    have h1 : cmp3 (V m e) 0 < 0 ↔ V m e < 0 := cmp3_lt
    rw [V_sign] at h1
    omega
  rw [hle]
  have hp : (0 : Int) < ((10 ^ 64 : Nat) : Int) := by exact_mod_cast (Nat.pow_pos (by omega) : 0 < 10 ^ 64)
  constructor
  · rintro ⟨he, hm, hlt⟩
    obtain ⟨M, rfl⟩ : ∃ M : Nat, m = (M : Int) := ⟨m.toNat, by omega⟩
    obtain ⟨E, rfl⟩ : ∃ E : Nat, e = (E : Int) := ⟨e.toNat, by omega⟩
    have hv : V (M : Int) (E : Int) = ((M * 10 ^ E : Nat) : Int) * ((10 ^ 64 : Nat) : Int) := by
      unfold V
      rw [show ((E : Int) + 64).toNat = E + 64 by omega, Nat.pow_add, Int.natCast_mul, Int.natCast_mul, Int.mul_assoc]
    rw [hv] at hlt
    have hi : ((M * 10 ^ E : Nat) : Int) < (n : Int) := Int.lt_of_mul_lt_mul_right hlt (Int.le_of_lt hp)
    refine ⟨M * 10 ^ E, by omega, ?_⟩
    refine whole_of _ M E (by omega) rfl ?_
    unfold right at hr
    by_cases hz : (M : Int) = 0
    · rw [if_pos hz] at hr
      right
      have : (E : Int) = 0 := by simpa using hr
      exact ⟨by omega, by omega⟩
    · rw [if_neg hz] at hr
      left
      simp only [Bool.and_eq_true, decide_eq_true_eq] at hr
      have := hr.1.1.2
      rw [Int.natAbs_natCast] at this
      exact this
  · rintro ⟨i, hi, hw⟩
    have hin : i < 1000000000000000000 := by omega
    have hv := V_whole i hin
    obtain ⟨M, K, hik, ew, hk, hf, hm⟩ := whole_form i hin
    have hw2 : wholeN i = ((M : Int), (K : Int)) := by unfold wholeN; rw [ew]
    rw [hw] at hw2 hv
    injection hw2 with e1 e2
    refine ⟨by omega, by omega, ?_⟩
    rw [hv]
    exact Int.mul_lt_mul_of_pos_right (by omega) hp
theorem text_valid {v : JV} (h : allJ v = true) : Lib.validD v.s.data.toList = true := by
  obtain ⟨k, m, e, s, l, ks⟩ := v
  rw [show allJ (.mk k m e s l ks) = (okOne (.mk k m e s l ks) && allL l) from rfl, Bool.and_eq_true] at h
  exact (ok_parts h.1).2.2.1
theorem allL_mem : ∀ (l : List JV) (v : JV), allL l = true → v ∈ l → allJ v = true
  | [], _, _, h => by cases h
  | a :: r, v, h, hm => by
    rw [show allL (a :: r) = (allJ a && allL r) from rfl, Bool.and_eq_true] at h
    rcases List.mem_cons.1 hm with rfl | hm
    · exact h.1
    · exact allL_mem r v h.2 hm
theorem jpart_valid {v : JV} (h : allJ v = true) : Lib.validD (jpart v).data.toList = true := by
  unfold jpart
  by_cases h4 : v.k = 4
  · rw [if_pos h4]; exact text_valid h
  · rw [if_neg h4]
    by_cases h0 : v.k = 0
    · rw [if_pos h0]; rfl
    · rw [if_neg h0]
      show Lib.validD (printJ v).toArray.toList = true
      rw [List.toList_toArray]
      unfold printJ
      by_cases hr : rightJ v = 0
      · rw [if_pos hr]; exact (textJ_run textN text_clean v).2
      · rw [if_neg hr]; rfl
theorem tail_valid {sep : List UInt8} (hs : Lib.validD sep = true) : ∀ l : List (List UInt8), (∀ x ∈ l, Lib.validD x = true) → Lib.validD (Lib.joinTail sep l) = true
  | [], _ => rfl
  | x :: r, h => by
    have : Lib.joinTail sep (x :: r) = sep ++ (x ++ Lib.joinTail sep r) := by simp [Lib.joinTail]
    rw [this]
    exact validD_append hs (validD_append (h x (by simp)) (tail_valid hs r fun y hy => h y (by simp [hy])))
theorem join_valid {gap : ByteArray} (hs : Lib.validD gap.data.toList = true) (l : List JV) (h : allL l = true) : Lib.validD (joinB (l.map jpart) gap).data.toList = true := by
  unfold joinB
  show Lib.validD (Lib.join ((l.map jpart).map (·.data.toList)) gap.data.toList).toArray.toList = true
  rw [List.toList_toArray]
  cases l with
  | nil => rfl
  | cons v r =>
    rw [List.map_cons, List.map_cons, Lib.join_cons]
    refine validD_append (jpart_valid (allL_mem _ v h (by simp))) (tail_valid hs _ fun x hx => ?_)
    obtain ⟨y, hy, rfl⟩ := List.mem_map.1 hx
    obtain ⟨z, hz, rfl⟩ := List.mem_map.1 hy
    exact jpart_valid (allL_mem _ z h (by simp [hz]))
theorem jsize_eq (gap : ByteArray) : ∀ l : List JV, jsize gap l = (((l.map jpart).map (·.data.toList)).map List.length).sum + l.length * gap.size
  | [] => by simp [jsize]
  | v :: r => by
    rw [List.map_cons, List.map_cons, List.map_cons, List.sum_cons]
    show (jpart v).size + gap.size + jsize gap r = _
    rw [jsize_eq gap r, List.length_cons, Nat.add_mul]
    have : (jpart v).data.toList.length = (jpart v).size := rfl
    omega
theorem joinB_size (gap : ByteArray) (l : List JV) : l ≠ [] → (joinB (l.map jpart) gap).size + gap.size = jsize gap l := by
  intro hne
  cases l with
  | nil => exact absurd rfl hne
  | cons v r =>
    have h1 : (joinB ((v :: r).map jpart) gap).size = (Lib.join (((v :: r).map jpart).map (·.data.toList)) gap.data.toList).length := by unfold joinB; rw [ByteArray.size]; simp
    rw [h1, List.map_cons, List.map_cons, Lib.join_cons, List.length_append, tail_len, List.length_map, List.length_map]
    show _ = (jpart v).size + gap.size + jsize gap r
    rw [jsize_eq gap r]
    have e1 : (jpart v).data.toList.length = (jpart v).size := rfl
    have e2 : gap.data.toList.length = gap.size := rfl
    rw [e1, e2]
    omega
theorem right_textV {s : ByteArray} (hv : Lib.validD s.data.toList = true) : rightJ (textV s) = 0 := by
  unfold rightJ
  rw [show depthJ (textV s) = 1 from rfl, if_neg (by decide)]
  rw [show allJ (textV s) = okOne (textV s) by rw [show allJ (textV s) = (okOne (textV s) && allL []) from rfl, show allL [] = true from rfl, Bool.and_true]]
  rw [show okOne (textV s) = true by
    show okOne (.mk 4 0 0 s [] []) = _
    simp [okOne, riseK, hv]
    rfl]
  rfl
theorem join_big {gap : ByteArray} (hs : Lib.validD gap.data.toList = true) (l : List JV) (h : allL l = true) (hb : 32768 + gap.size < jsize gap l) : doneJ (textV (joinB (l.map jpart) gap), 0) = (zeroJ, 3) := by
  have hne : l ≠ [] := by rintro rfl; simp [jsize] at hb
  have hz := joinB_size gap l hne
  have hv := join_valid hs l h
  have hr := right_textV hv
  have hq := quoteD_ge hv
  have hp : printJ (textV (joinB (l.map jpart) gap)) = quoteD (joinB (l.map jpart) gap).data.toList := by
    unfold printJ
    rw [if_pos hr]
    show textJ textN (.mk 4 0 0 (joinB (l.map jpart) gap) [] []) = _
    simp [textJ]
  have hsz : (joinB (l.map jpart) gap).data.toList.length = (joinB (l.map jpart) gap).size := rfl
  unfold doneJ
  rw [if_neg (by simp), if_neg (by rw [hr]; decide), if_pos (by rw [hp]; omega)]
theorem itoa_few (e : Int) (h0 : -64 ≤ e) (h1 : e ≤ 64) : (Lib.itoa e).length ≤ 3 := by
  have key : ∀ u : Nat, u ≤ 64 → (Lib.decDigits u).length ≤ 2 := by
    intro u hu
    rw [Lib.decDigits_length]
    by_cases h : u < 10
    · rw [Lib.nDigits_small h]; omega
    · rw [Lib.nDigits_big h, Lib.nDigits_small (by omega)]; omega
  unfold Lib.itoa
  split
  · have := key e.natAbs (by omega); simp; omega
  · have := key e.toNat (by omega); omega
theorem text_few {m e : Int} (h : right m e = true) : (textN m e).length ≤ 200 := by
  have h1 := nd_small h
  have hx := right_exp h
  have hi := itoa_few e hx.1 hx.2
  have hd : (Lib.decDigits m.natAbs).length ≤ 18 := by rw [Lib.decDigits_length]; exact h1
  have hs : (sgn m).length ≤ 1 := by unfold sgn; split <;> simp
  have hp : (pad m e).length ≤ 100 := by
    unfold pad; split
    · rw [List.length_append, List.length_replicate]; omega
    · omega
  unfold textN
  split
  · simp only [List.length_append, List.length_replicate]; omega
  · split
    · simp only [List.length_append, List.length_take, List.length_drop, List.length_cons, List.length_nil]; omega
    · simp only [List.length_append, List.length_cons, List.length_nil]; omega
theorem jpart_few {v : JV} (h : allJ v = true) (h5 : v.k ≠ 5) (h6 : v.k ≠ 6) : (jpart v).size ≤ 200 * sizeJ v := by
  obtain ⟨k, m, e, s, l, ks⟩ := v
  have hz := size_parts (.mk k m e s l ks)
  rw [show allJ (.mk k m e s l ks) = (okOne (.mk k m e s l ks) && allL l) from rfl, Bool.and_eq_true] at h
  have F := okF_of h.1
  have hk := F.kk
  change k ≠ 5 at h5
  change k ≠ 6 at h6
  have hz2 : sizeJ (.mk k m e s l ks) = 1 + s.size + keysN ks + sizeL l := hz
  show (if k = 4 then s else if k = 0 then ⟨#[]⟩ else ⟨(printJ (.mk k m e s l ks)).toArray⟩ : ByteArray).size ≤ _
  by_cases h4 : k = 4
  · rw [if_pos h4]
    omega
  · rw [if_neg h4]
    by_cases h0 : k = 0
    · rw [if_pos h0]
      exact Nat.zero_le _
    · rw [if_neg h0]
      have e0 : (⟨(printJ (.mk k m e s l ks)).toArray⟩ : ByteArray).size = (printJ (.mk k m e s l ks)).length := by rw [ByteArray.size]; simp
      rw [e0]
      unfold printJ
      by_cases hr : rightJ (.mk k m e s l ks) = 0
      · rw [if_pos hr]
        have ht := text_few F.rr
        have : k = 1 ∨ k = 2 ∨ k = 3 := by omega
        rcases this with rfl | rfl | rfl
        · have : textJ textN (.mk 1 m e s l ks) = [102, 97, 108, 115, 101] := by simp [textJ]
          rw [this]; simp only [List.length_cons, List.length_nil]; omega
        · have : textJ textN (.mk 2 m e s l ks) = [116, 114, 117, 101] := by simp [textJ]
          rw [this]; simp only [List.length_cons, List.length_nil]; omega
        · have : textJ textN (.mk 3 m e s l ks) = textN m e := by simp [textJ]
          rw [this]; omega
      · rw [if_neg hr]; exact Nat.zero_le _
theorem jsize_few (gap : ByteArray) : ∀ l : List JV, allL l = true → (∀ v ∈ l, v.k ≠ 5 ∧ v.k ≠ 6) → jsize gap l ≤ 200 * sizeL l + l.length * gap.size
  | [], _, _ => by simp [jsize]
  | v :: r, h, hk => by
    have h2 : allL (v :: r) = (allJ v && allL r) := rfl
    rw [h2, Bool.and_eq_true] at h
    have i1 := jsize_few gap r h.2 (fun x hx => hk x (by simp [hx]))
    have i2 := jpart_few h.1 (hk v (by simp)).1 (hk v (by simp)).2
    show (jpart v).size + gap.size + jsize gap r ≤ 200 * (sizeJ v + sizeL r) + (r.length + 1) * gap.size
    rw [Nat.add_mul]
    omega
theorem few_prod (n g : Nat) (h : n + g ≤ 1000) : n * g ≤ 500000 := by
  rcases Nat.lt_or_ge 500 n with h1 | h1
  · have := Nat.mul_le_mul (show n ≤ 1000 by omega) (show g ≤ 500 by omega)
    omega
  · have := Nat.mul_le_mul h1 (show g ≤ 1000 by omega)
    omega
theorem join_step (gap : ByteArray) (l : List JV) (j : Nat) (h : j < l.length) : (joinB ((l.take (j + 1)).map jpart) gap) = (if 0 < j then joinB ((l.take j).map jpart) gap ++ gap else ⟨#[]⟩) ++ jpart l[j] := by
  apply ba_inj
  rw [List.take_succ_eq_append_getElem h, List.map_append, List.map_singleton]
  unfold joinB
  rw [ba_append]
  show (Lib.join _ _).toArray.toList = _
  rw [List.toList_toArray, List.map_append, List.map_singleton]
  have tail : ∀ (ps : List (List UInt8)) (x : List UInt8), Lib.joinTail gap.data.toList (ps ++ [x]) = Lib.joinTail gap.data.toList ps ++ gap.data.toList ++ x := fun ps x => by simp [Lib.joinTail]
  by_cases h0 : 0 < j
  · rw [if_pos h0, ba_append]
    show _ = (Lib.join _ _).toArray.toList ++ _ ++ _
    rw [List.toList_toArray]
    have hne : l.take j ≠ [] := fun h2 => by
      have := congrArg List.length h2
      rw [List.length_take, List.length_nil] at this
      omega
    obtain ⟨v, r, hv⟩ := List.exists_cons_of_ne_nil hne
    rw [hv, List.map_cons, List.map_cons, List.cons_append, Lib.join_cons, Lib.join_cons, tail]
    simp
  · rw [if_neg h0]
    obtain rfl : j = 0 := by omega
    simp [Lib.join]
end Go.Proofs.YtnkokhpadcgfbaaGreatDoor
