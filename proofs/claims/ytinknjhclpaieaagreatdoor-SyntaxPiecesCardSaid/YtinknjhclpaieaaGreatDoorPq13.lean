/- Lemmas and contracts for the laws SyntaxPieces, part 13 of 48: ScanOne. Conditions: those that each lemma names. -/
import Derived.Test.YtinknjhclpaieaaGreatDoorPq10
set_option maxRecDepth 100000
set_option maxHeartbeats 4000000
namespace Th
open Go Go.Lib
theorem scanGo_pre (L : List UInt8) : ∀ (n a : Nat) (acc l : List Tf) (x : Nat × Nat), scanGo L n a acc = (l, x) → x.2 = 0 → ∃ m, l = acc ++ m := by
  intro n; induction n with
  | zero => intro a acc l x h _; simp only [scanGo] at h; injection h with h1 h2; exact ⟨[], by rw [← h1, List.append_nil]⟩
  | succ n ih =>
    intro a acc l x h hx; simp only [scanGo] at h; split at h
    · rename_i h1
      injection h with h2 h3; rw [← h3] at hx; exact absurd hx h1
    split at h
    · injection h with h1 h2; exact ⟨[], by rw [← h1, List.append_nil]⟩
    obtain ⟨m, hm⟩ := ih _ _ _ _ h hx; exact ⟨(oneF L 48 a).1 :: m, by rw [hm, List.append_assoc]; rfl⟩
theorem tokP_kind (c : UInt8) (r : List UInt8) : (tokP (c :: r)).1 ≠ 5 := by
  simp only [tokP]; repeat' split
  all_goals exact fun h => by cases h
theorem skipA_zero (c : UInt8) (r : List UInt8) (hc : c = 34) : skipA (c :: r) 0 = 0 := by
  subst hc; rfl
theorem skipA_end (L : List UInt8) : skipA L L.length = L.length := by
  unfold skipA; rw [List.drop_length]; rfl
theorem scan_one (L : List UInt8) : okQ L = true ↔ ∃ t, scanF L = ([t], 0, 0) ∧ t.kind = 5 ∧ t.text.size = L.length := by
  constructor
  · intro h
    unfold okQ at h; simp only [Bool.and_eq_true, decide_eq_true_eq] at h; obtain ⟨⟨h1, h2⟩, h3⟩ := h; cases L with
    | nil => cases h2
    | cons c r =>
      obtain rfl : c = 34 := by simpa using h2
      have ho : oneF (34 :: r) 48 0 = (⟨5, ⟨(34 :: r).toArray⟩, 0⟩, (34 :: r).length, 0) := by
        rw [oneF_eq, skipA_zero _ _ rfl]; unfold oneG; rw [List.drop_zero]; dsimp only; rw [if_pos rfl, h3, if_neg (by simp), Nat.sub_zero, List.take_length]
      have he : oneF (34 :: r) 48 (34 :: r).length = (noTf, (34 :: r).length, 0) := by
        rw [oneF_eq, skipA_end]; unfold oneG; rw [List.drop_length]
      refine ⟨⟨5, ⟨(34 :: r).toArray⟩, 0⟩, ?_, rfl, by rw [bytes_size]⟩; unfold scanF; rw [if_neg (by omega)]; rw [scanGo, ho]; dsimp only; rw [if_neg (by simp), if_neg (by decide)]; rw [show (34 :: r).length = r.length + 1 from rfl] at he ⊢; rw [scanGo, he]; dsimp only; rw [if_neg (by simp), if_pos (show noTf.kind = 0 from rfl)]; rfl
  rintro ⟨t, h, hk, hs⟩; unfold scanF at h; split at h
  · injection h with h1 _; cases h1
  rename_i hle
  rw [scanGo] at h; split at h
  · injection h with h1 _; cases h1
  rename_i h0
  split at h
  · injection h with h1 _; cases h1
  rename_i hk0
  obtain ⟨m, hm⟩ := scanGo_pre L _ _ _ _ _ h rfl; obtain rfl : t = (oneF L 48 0).1 := by
    rw [List.nil_append, List.singleton_append] at hm; injection hm with hm _
  have hsk := skipA_le L 0 (Nat.zero_le _); rw [oneF_eq] at hk hs h0; generalize skipA L 0 = b at hk hs hsk h0; unfold oneG at hk hs h0; cases hd : L.drop b with
  | nil => rw [hd] at hk; cases hk
  | cons c r =>
    have hlen : (c :: r).length = L.length - b := by rw [← hd, List.length_drop]
    rw [List.length_cons] at hlen; rw [hd] at hk hs h0; dsimp only at hk hs h0; split at hk
    · rename_i hc
      rw [if_pos hc] at hs h0; obtain ⟨q1, q2⟩ := quoteF_ok L 48 b (by omega); split at hk
      · cases hk
      rename_i hq
      rw [if_neg hq, bytes_size, List.length_take, List.length_cons] at hs; obtain rfl : b = 0 := by omega
      rw [List.drop_zero] at hd; unfold okQ; simp only [Bool.and_eq_true, decide_eq_true_eq]; refine ⟨⟨by omega, by rw [hd, hc]; rfl⟩, ?_⟩; exact Prod.ext (by show (quoteF L 48 0).1 = L.length; omega) (by show (quoteF L 48 0).2 = 0; omega)
    split at hk
    · cases hk
    exact absurd hk (tokP_kind c r)
theorem scanGo_ok (L : List UInt8) : ∀ (n a : Nat) (acc : List Tf), (scanGo L n a acc).2.2 = 0 → (scanGo L n a acc).2.1 = 0 := by
  intro n; induction n with
  | zero => intro a acc _; rfl
  | succ n ih =>
    intro a acc h; simp only [scanGo] at h ⊢; split
    · rename_i h1; rw [if_pos h1] at h; exact absurd h h1
    rename_i h1
    rw [if_neg h1] at h; split
    · rfl
    rename_i h2; rw [if_neg h2] at h; exact ih _ _ h
theorem scanF_ok (L : List UInt8) (h : (scanF L).2.2 = 0) : (scanF L).2.1 = 0 := by
  unfold scanF at h ⊢; split
  · rfl
  rename_i h1; rw [if_neg h1] at h; exact scanGo_ok _ _ _ _ h
end Th
