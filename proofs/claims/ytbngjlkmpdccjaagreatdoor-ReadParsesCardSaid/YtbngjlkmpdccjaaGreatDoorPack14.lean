/- Lemmas and contracts for the laws ReadParses, ReadBytes, part 14 of 50: MakeMathR. Conditions: those that each lemma names. -/
import Derived.Test.YtbngjlkmpdccjaaGreatDoorPack8
namespace Th
open Go Go.Lib
theorem less_to : ∀ (a b : List UInt8), Op.bytesLess a b = true → a < b
  | [], [], h => by cases h
  | _ :: _, [], h => by cases h
  | [], _ :: _, _ => by simp
  | a :: x, b :: y, h => by
    simp only [Op.bytesLess, Bool.or_eq_true, Bool.and_eq_true, decide_eq_true_eq, beq_iff_eq] at h
    rcases h with h | ⟨rfl, h⟩
    · exact List.Lex.rel h
    · exact List.Lex.cons (less_to x y h)
theorem to_less : ∀ (a b : List UInt8), a < b → Op.bytesLess a b = true
  | [], [], h => absurd h (List.lt_irrefl _)
  | _ :: _, [], h => by cases h
  | [], _ :: _, _ => rfl
  | a :: x, b :: y, h => by
    simp only [Op.bytesLess, Bool.or_eq_true, Bool.and_eq_true, decide_eq_true_eq, beq_iff_eq]
    cases h with
    | rel h => exact Or.inl h
    | cons h => exact Or.inr ⟨rfl, to_less x y h⟩
theorem less_iff (a b : List UInt8) : Op.bytesLess a b = true ↔ a < b := ⟨less_to a b, to_less a b⟩
def ltK (a b : ByteArray) : Prop := Op.bytesLess a.data.toList b.data.toList = true
theorem ltK_irr (a : ByteArray) : ¬ ltK a a := fun h => List.lt_irrefl _ ((less_iff _ _).1 h)
theorem ltK_trans {a b c : ByteArray} (h1 : ltK a b) (h2 : ltK b c) : ltK a c := (less_iff _ _).2 (List.lt_trans ((less_iff _ _).1 h1) ((less_iff _ _).1 h2))
theorem ltK_or {a b : ByteArray} (h : ¬ ltK a b) (hn : a ≠ b) : ltK b a := by
  have h1 : ¬ a.data.toList < b.data.toList := fun e => h ((less_iff _ _).2 e)
  exact (less_iff _ _).2 (Std.lt_of_le_of_ne (List.not_lt.1 h1) (fun e => hn (kd_inj e.symm)))
structure PutK (ks : List ByteArray) (l : List JV) (i : Nat) (K : List ByteArray) (L : List JV) : Prop where
  sorted : K.Pairwise ltK
  mem : ∀ k, k ∈ K ↔ ∃ j, j < i ∧ ks.getD j ⟨#[]⟩ = k
  val : L = K.map fun k => l.getD (lastIx ks i k) zeroJ
theorem PutK.zero (ks : List ByteArray) (l : List JV) : PutK ks l 0 [] [] := ⟨List.Pairwise.nil, fun k => by simp, rfl⟩
theorem PutK.len {ks : List ByteArray} {l : List JV} {i : Nat} {K : List ByteArray} {L : List JV} (h : PutK ks l i K L) : L.length = K.length := by rw [h.val, List.length_map]
theorem nodup_sub : ∀ (K S : List (List UInt8)), K.Pairwise (· < ·) → (∀ k ∈ K, k ∈ S) → K.length ≤ S.length
  | [], _, _, _ => Nat.zero_le _
  | a :: K, S, hp, h => by
    obtain ⟨h1, h2⟩ := List.pairwise_cons.1 hp
    have ha := h a (by simp)
    have h4 := nodup_sub K (S.erase a) h2 (fun k hk => by
      have hne : k ≠ a := fun e => List.lt_irrefl a (by have h3 := h1 k hk; rwa [e] at h3)
      exact (List.mem_erase_of_ne hne).2 (h k (by simp [hk])))
    rw [List.length_erase_of_mem ha] at h4
    have h0 : 0 < S.length := List.length_pos_of_mem ha
    rw [List.length_cons]; omega
theorem PutK.size {ks : List ByteArray} {l : List JV} {i : Nat} {K : List ByteArray} {L : List JV} (h : PutK ks l i K L) : K.length ≤ i := by
  have h1 := nodup_sub (K.map fun k => k.data.toList) ((List.range i).map fun j => (ks.getD j ⟨#[]⟩).data.toList) (List.pairwise_map.2 (h.sorted.imp fun {a b} (hab : ltK a b) => (less_iff a.data.toList b.data.toList).1 hab)) (fun k hk => by
    obtain ⟨k', hk', rfl⟩ := List.mem_map.1 hk
    obtain ⟨j, hj, e⟩ := (h.mem k').1 hk'
    exact List.mem_map.2 ⟨j, List.mem_range.2 hj, by rw [e]⟩)
  simpa using h1
theorem lastIx_succ (ks : List ByteArray) (n : Nat) (k : ByteArray) : lastIx ks (n + 1) k = if ks.getD n ⟨#[]⟩ = k then n else lastIx ks n k := rfl
theorem PutK.new {ks : List ByteArray} {l : List JV} {i : Nat} {K : List ByteArray} {L : List JV} (h : PutK ks l i K L) (at_ : Nat) (hat : at_ ≤ K.length) (hlow : ∀ j (hj : j < K.length), j < at_ → ltK K[j] (ks.getD i ⟨#[]⟩))
    (hhi : ∀ (hj : at_ < K.length), ¬ ltK K[at_] (ks.getD i ⟨#[]⟩) ∧ K[at_] ≠ ks.getD i ⟨#[]⟩) :
    PutK ks l (i + 1) (K.take at_ ++ [ks.getD i ⟨#[]⟩] ++ K.drop at_) (L.take at_ ++ [l.getD i zeroJ] ++ L.drop at_) := by
  generalize hk : ks.getD i ⟨#[]⟩ = k at *
  have hL : ∀ x ∈ K.take at_, ltK x k := by
    intro x hx
    obtain ⟨j, hj, rfl⟩ := List.mem_iff_getElem.1 hx
    rw [List.length_take] at hj
    rw [List.getElem_take]
    exact hlow j (by omega) (by omega)
  have hR : ∀ x ∈ K.drop at_, ltK k x := by
    intro x hx
    have hlt : at_ < K.length := by
      rcases Nat.lt_or_ge at_ K.length with h1 | h1
      · exact h1
      · rw [List.drop_of_length_le h1] at hx; cases hx
    have h1 := ltK_or (hhi hlt).1 (hhi hlt).2
    rw [List.drop_eq_getElem_cons hlt] at hx
    rcases List.mem_cons.1 hx with e | hx
    · rw [e]; exact h1
    · have hp := h.sorted
      rw [← List.take_append_drop at_ K, List.drop_eq_getElem_cons hlt] at hp
      exact ltK_trans h1 ((List.pairwise_cons.1 (List.pairwise_append.1 hp).2.1).1 x hx)
  have hsrt : (K.take at_ ++ [k] ++ K.drop at_).Pairwise ltK := by
    have hp := h.sorted
    rw [← List.take_append_drop at_ K] at hp
    obtain ⟨p1, p2, p3⟩ := List.pairwise_append.1 hp
    rw [List.append_assoc]
    refine List.pairwise_append.2 ⟨p1, List.pairwise_cons.2 ⟨hR, p2⟩, fun a ha b hb => ?_⟩
    rcases List.mem_cons.1 hb with e | hb
    · rw [e]; exact hL a ha
    · exact p3 a ha b hb
  have hnot : ∀ x ∈ K, k ≠ x := by
    intro x hx e
    rw [← List.take_append_drop at_ K] at hx
    rcases List.mem_append.1 hx with h1 | h1
    · exact ltK_irr k (by have := hL x h1; rwa [← e] at this)
    · exact ltK_irr k (by have := hR x h1; rwa [← e] at this)
  refine ⟨hsrt, fun x => ?_, ?_⟩
  · have : x ∈ K.take at_ ++ [k] ++ K.drop at_ ↔ x = k ∨ x ∈ K := by
      rw [List.mem_append, List.mem_append, List.mem_singleton]
      conv => rhs; rw [← List.take_append_drop at_ K, List.mem_append]
      constructor
      · rintro ((h | h) | h)
        · exact Or.inr (Or.inl h)
        · exact Or.inl h
        · exact Or.inr (Or.inr h)
      · rintro (h | h | h)
        · exact Or.inl (Or.inr h)
        · exact Or.inl (Or.inl h)
        · exact Or.inr h
    rw [this, h.mem]
    constructor
    · rintro (rfl | ⟨j, hj, e⟩)
      · exact ⟨i, by omega, hk⟩
      · exact ⟨j, by omega, e⟩
    · rintro ⟨j, hj, e⟩
      by_cases hji : j = i
      · subst hji; exact Or.inl (e.symm.trans hk)
      · exact Or.inr ⟨j, by omega, e⟩
  · have hix : ∀ x ∈ K, l.getD (lastIx ks (i + 1) x) zeroJ = l.getD (lastIx ks i x) zeroJ := by
      intro x hx
      rw [lastIx_succ, if_neg (by rw [hk]; exact hnot x hx)]
    have hself : l.getD (lastIx ks (i + 1) k) zeroJ = l.getD i zeroJ := by
      rw [lastIx_succ, if_pos hk]
    rw [List.map_append, List.map_append, List.map_cons, List.map_nil, hself, h.val, ← List.map_take, ← List.map_drop]
    congr 1
    · congr 1
      exact List.map_congr_left fun x hx => (hix x (List.mem_of_mem_take hx)).symm
    · exact List.map_congr_left fun x hx => (hix x (List.mem_of_mem_drop hx)).symm
theorem set_mid {α : Type} (a b : List α) (x : α) : (a ++ [x] ++ b).set a.length x = a ++ [x] ++ b := by
  rw [List.append_assoc, List.set_append_right _ _ (Nat.le_refl _), Nat.sub_self]; rfl
theorem PutK.new_set {ks : List ByteArray} {l : List JV} {i : Nat} {K : List ByteArray} {L : List JV} (h : PutK ks l i K L) (at_ : Nat) (hat : at_ ≤ K.length) :
    (L.take at_ ++ [l.getD i zeroJ] ++ L.drop at_).set at_ (l.getD i zeroJ) = L.take at_ ++ [l.getD i zeroJ] ++ L.drop at_ := by
  have h1 : (L.take at_).length = at_ := by rw [List.length_take, h.len]; omega
  have := set_mid (L.take at_) (L.drop at_) (l.getD i zeroJ)
  rwa [h1] at this
theorem PutK.old {ks : List ByteArray} {l : List JV} {i : Nat} {K : List ByteArray} {L : List JV} (h : PutK ks l i K L) (at_ : Nat) (hat : at_ < K.length) (he : K[at_] = ks.getD i ⟨#[]⟩) : PutK ks l (i + 1) K (L.set at_ (l.getD i zeroJ)) := by
  refine ⟨h.sorted, fun x => ?_, ?_⟩
  · rw [h.mem]
    constructor
    · rintro ⟨j, hj, e⟩; exact ⟨j, by omega, e⟩
    · rintro ⟨j, hj, e⟩
      by_cases hji : j = i
      · subst hji
        exact (h.mem x).1 (by rw [← e, ← he]; exact List.getElem_mem hat)
      · exact ⟨j, by omega, e⟩
  · rw [h.val]
    refine List.ext_getElem (by simp) fun m h1 h2 => ?_
    simp only [List.length_set, List.length_map] at h1
    rw [List.getElem_map, lastIx_succ]
    by_cases hm : at_ = m
    · subst hm
      rw [List.getElem_set_self, if_pos he.symm]
    · rw [List.getElem_set_ne hm, List.getElem_map, if_neg]
      intro e
      have hp := List.pairwise_iff_getElem.1 h.sorted
      rcases Nat.lt_or_gt_of_ne hm with h3 | h3
      · have := hp at_ m hat h1 h3
        rw [he, e] at this
        exact ltK_irr _ this
      · have := hp m at_ h1 hat h3
        rw [he, e] at this
        exact ltK_irr _ this
theorem PutK.done {ks : List ByteArray} {l : List JV} {K : List ByteArray} {L : List JV} (h : PutK ks l ks.length K L) : K = keysJ ks ∧ L = (keysJ ks).map fun k => l.getD (lastIx ks ks.length k) zeroJ := by
  have hK : K = keysJ ks := by
    refine sorted_unique ltK ltK_irr (fun _ _ _ => ltK_trans) _ _ h.sorted ?_ (fun x => ?_)
    · unfold keysJ
      refine List.Pairwise.map _ ?_ (sortB_strict _ (nodup_nubB _))
      intro a b hab
      exact (less_iff _ _).2 hab
    · rw [h.mem, mem_keysJ]
      constructor
      · rintro ⟨j, hj, rfl⟩
        simp [hj]
      · intro hx
        obtain ⟨j, hj, rfl⟩ := List.mem_iff_getElem.1 hx
        exact ⟨j, hj, by simp [hj]⟩
  exact ⟨hK, by rw [h.val, hK]⟩
theorem rise_of : ∀ K : List ByteArray, (∀ k ∈ K, validD k.data.toList = true) → K.Pairwise ltK → riseK K = true
  | [], _, _ => rfl
  | [a], h, _ => by simp [riseK, h a]
  | a :: b :: r, h, hp => by
    obtain ⟨h1, h2⟩ := List.pairwise_cons.1 hp
    have h3 : ltK a b := h1 b (by simp)
    rw [show riseK (a :: b :: r) = (validD a.data.toList && Op.bytesLess a.data.toList b.data.toList && riseK (b :: r)) from rfl, h a (by simp), rise_of (b :: r) (fun k hk => h k (by simp [hk])) h2]
    unfold ltK at h3
    rw [h3]; rfl
theorem allL_of : ∀ (l : List JV), (∀ v ∈ l, allJ v = true) → allL l = true
  | [], _ => rfl
  | v :: r, h => by simp only [allL]; rw [h v (by simp), allL_of r (fun x hx => h x (by simp [hx]))]; rfl
theorem depthL_of : ∀ (l : List JV) (n : Nat), (∀ v ∈ l, depthJ v ≤ n) → depthL l ≤ n
  | [], _, _ => Nat.zero_le _
  | v :: r, n, h => by
    have h1 := h v (by simp)
    have h2 := depthL_of r n (fun x hx => h x (by simp [hx]))
    simp only [depthL]; omega
theorem right_parts {v : JV} (h : rightJ v = 0) : depthJ v ≤ 48 ∧ allJ v = true := by
  unfold rightJ at h
  by_cases h1 : 48 < depthJ v
  · rw [if_pos h1] at h; cases h
  · rw [if_neg h1] at h
    refine ⟨by omega, ?_⟩
    cases h2 : allJ v with
    | true => rfl
    | false => rw [h2] at h; cases h
theorem made_of {ks : List ByteArray} {l : List JV} {K : List ByteArray} {L : List JV} (h : PutK ks l ks.length K L) (hlen : ks.length = l.length) (hv : ks.all (fun k => validD k.data.toList) = true) (hb : ∀ i (hi : i < l.length), rightJ l[i] = 0) :
    depthJ (.mk 6 0 0 ⟨#[]⟩ L K) ≤ 49 ∧ makeJ ks l = (if 48 < depthJ (.mk 6 0 0 ⟨#[]⟩ L K) then (zeroJ, 31) else (.mk 6 0 0 ⟨#[]⟩ L K, 0)) := by
  have hmem : ∀ v ∈ L, rightJ v = 0 := by
    intro v hvm
    rw [h.val] at hvm
    obtain ⟨k, hk, rfl⟩ := List.mem_map.1 hvm
    have hlt := (lastIx_lt ks ks.length k ((h.mem k).1 hk)).1
    rw [List.getD_eq_getElem?_getD, List.getElem?_eq_getElem (by omega)]
    exact hb _ _
  have hkv : ∀ k ∈ K, validD k.data.toList = true := by
    intro k hk
    obtain ⟨j, hj, rfl⟩ := (h.mem k).1 hk
    rw [List.all_eq_true] at hv
    rw [List.getD_eq_getElem?_getD, List.getElem?_eq_getElem hj]
    exact hv _ (List.getElem_mem hj)
  have hall : allJ (.mk 6 0 0 ⟨#[]⟩ L K) = true := by
    simp only [allJ, okOne]
    rw [allL_of L (fun v hvm => (right_parts (hmem v hvm)).2), rise_of K hkv h.sorted, h.len]
    simp [right, validD]
    exact ⟨rfl, rfl⟩
  have hd : depthJ (.mk 6 0 0 ⟨#[]⟩ L K) ≤ 49 := by
    have := depthL_of L 48 (fun v hvm => (right_parts (hmem v hvm)).1)
    show 1 + depthL L ≤ 49
    omega
  refine ⟨hd, ?_⟩
  obtain ⟨rfl, rfl⟩ := h.done
  have hbad := badL_zero l hb
  unfold makeJ
  rw [if_neg (by omega), if_neg (by rw [hv]; simp), if_neg (by rw [hbad]; simp)]
  unfold rightJ
  rw [hall]
  by_cases h1 : 48 < depthJ (.mk 6 0 0 ⟨#[]⟩ ((keysJ ks).map fun k => l.getD (lastIx ks ks.length k) zeroJ) (keysJ ks))
  · rw [if_pos h1, if_pos (by decide), if_pos h1]
  · rw [if_neg h1, if_neg (by simp), if_neg h1]
end Th
