/- Plain law on the map of a list of keys: each key's last place; sorted lists of keys without repeats. No conditions: it imports no program. -/
import Derived.Test.YtohhnkmfgfgpjaaGreatDoorTokMath
import Derived.Maps.Views
namespace Th
open Go Go.Lib Go.Maps

theorem kd_inj {a b : ByteArray} (h : a.data.toList = b.data.toList) : a = b := ByteArray.ext (Array.toList_inj.1 h)
def kLit (k : ByteArray) : Lit := .string k.data.toList
theorem kLit_inj {a b : ByteArray} (h : kLit a = kLit b) : a = b := by
  unfold kLit at h
  injection h with h
  exact kd_inj h
theorem kLit_key (k : ByteArray) : WideAt.IsKeyLit (kLit k) := by
  unfold kLit; first | exact trivial | (simp [WideAt.IsKeyLit])
section
variable {H : Type}
/-- the map behind n keys: each key's last place -/
def lastM (ks : List ByteArray) : Nat → DataW H
  | 0 => .map []
  | n + 1 => (lastM ks n).put (kLit (ks.getD n ⟨#[]⟩)) (.lit (.int .i64 n))
/-- a key's last place among the first n -/
def lastIx (ks : List ByteArray) : Nat → ByteArray → Nat
  | 0, _ => 0
  | n + 1, k => if ks.getD n ⟨#[]⟩ = k then n else lastIx ks n k
theorem lastM_isMap (ks : List ByteArray) : ∀ n, IsMap (lastM (H := H) ks n)
  | 0 => isMap_empty
  | n + 1 => (lastM_isMap ks n).put _ _
theorem lastM_tidy (ks : List ByteArray) : ∀ n, Tidy (lastM (H := H) ks n)
  | 0 => tidy_empty
  | n + 1 => (lastM_tidy ks n).put (kLit_key _) _
theorem size_lastM (ks : List ByteArray) : ∀ n, Maps.size (lastM (H := H) ks n) ≤ n
  | 0 => Nat.le_refl _
  | n + 1 => by
    have := size_lastM ks n
    unfold lastM
    rw [size_put (lastM_tidy ks n)]
    split <;> omega
theorem has_lastM (ks : List ByteArray) : ∀ (n : Nat) (kl : Lit), Maps.has (lastM (H := H) ks n) kl = true ↔ ∃ j, j < n ∧ kl = kLit (ks.getD j ⟨#[]⟩)
  | 0, kl => by simp [lastM, Maps.has]
  | n + 1, kl => by
    unfold lastM
    by_cases h : kl = kLit (ks.getD n ⟨#[]⟩)
    · subst h
      rw [has_put_same (lastM_isMap ks n) (kLit_key _)]
      exact ⟨fun _ => ⟨n, by omega, rfl⟩, fun _ => rfl⟩
    · rw [has_put_other h, has_lastM ks n kl]
      constructor
      · rintro ⟨j, hj, e⟩; exact ⟨j, by omega, e⟩
      · rintro ⟨j, hj, e⟩
        by_cases hjn : j = n
        · subst hjn; exact absurd e h
        · exact ⟨j, by omega, e⟩
theorem at_lastM (ks : List ByteArray) : ∀ (n : Nat) (k : ByteArray) (z : DataW H), (∃ j, j < n ∧ ks.getD j ⟨#[]⟩ = k) → (lastM ks n).atKey (kLit k) z = .lit (.int .i64 (lastIx ks n k))
  | 0, k, z, ⟨_, h, _⟩ => by omega
  | n + 1, k, z, ⟨j, hj, e⟩ => by
    unfold lastM lastIx
    by_cases h : ks.getD n ⟨#[]⟩ = k
    · rw [h, atKey_put_same (lastM_isMap ks n) (kLit_key _), if_pos rfl]
    · rw [atKey_put_other (fun e => h (kLit_inj e).symm), if_neg h]
      refine at_lastM ks n k z ⟨j, ?_, e⟩
      rcases Nat.lt_or_ge j n with h1 | h1
      · exact h1
      · obtain rfl : j = n := by omega
        exact absurd e h
theorem lastIx_lt (ks : List ByteArray) : ∀ (n : Nat) (k : ByteArray), (∃ j, j < n ∧ ks.getD j ⟨#[]⟩ = k) → lastIx ks n k < n ∧ ks.getD (lastIx ks n k) ⟨#[]⟩ = k
  | 0, k, ⟨_, h, _⟩ => by omega
  | n + 1, k, ⟨j, hj, e⟩ => by
    unfold lastIx
    by_cases h : ks.getD n ⟨#[]⟩ = k
    · rw [if_pos h]; exact ⟨by omega, h⟩
    · rw [if_neg h]
      have := lastIx_lt ks n k ⟨j, by
        rcases Nat.lt_or_ge j n with h1 | h1
        · exact h1
        · obtain rfl : j = n := by omega
          exact absurd e h, e⟩
      exact ⟨by omega, this.2⟩
end
/-- sorted without repeats, and with the same members: the same -/
theorem sorted_unique {α : Type} (lt : α → α → Prop) (irr : ∀ a, ¬ lt a a) (tr : ∀ a b c, lt a b → lt b c → lt a c) : ∀ (a b : List α), a.Pairwise lt → b.Pairwise lt → (∀ x, x ∈ a ↔ x ∈ b) → a = b
  | [], [], _, _, _ => rfl
  | [], y :: b, _, _, h => by have := (h y).2 (by simp); cases this
  | x :: a, [], _, _, h => by have := (h x).1 (by simp); cases this
  | x :: a, y :: b, ha, hb, h => by
    obtain ⟨ha1, ha2⟩ := List.pairwise_cons.1 ha
    obtain ⟨hb1, hb2⟩ := List.pairwise_cons.1 hb
    have hxy : x = y := by
      rcases List.mem_cons.1 ((h x).1 (by simp)) with e | h1
      · exact e
      · rcases List.mem_cons.1 ((h y).2 (by simp)) with e | h2
        · exact e.symm
        · exact absurd (tr _ _ _ (ha1 y h2) (hb1 x h1)) (irr x)
    subst hxy
    rw [sorted_unique lt irr tr a b ha2 hb2 (fun z => ⟨fun hz => by
      rcases List.mem_cons.1 ((h z).1 (by simp [hz])) with e | h1
      · subst e; exact absurd (ha1 z hz) (irr z)
      · exact h1, fun hz => by
      rcases List.mem_cons.1 ((h z).2 (by simp [hz])) with e | h1
      · subst e; exact absurd (hb1 z hz) (irr z)
      · exact h1⟩)]
/-! keys, sorted, each once -/
def nubB : List (List UInt8) → List (List UInt8)
  | [] => []
  | x :: r => if x ∈ r then nubB r else x :: nubB r
theorem mem_nubB : ∀ (l : List (List UInt8)) (x : List UInt8), x ∈ nubB l ↔ x ∈ l
  | [], x => by simp [nubB]
  | y :: r, x => by
    unfold nubB
    by_cases h : y ∈ r
    · rw [if_pos h, mem_nubB r x, List.mem_cons]
      exact ⟨Or.inr, fun hx => hx.elim (fun e => by subst e; exact h) id⟩
    · rw [if_neg h, List.mem_cons, List.mem_cons, mem_nubB r x]
theorem nodup_nubB : ∀ (l : List (List UInt8)), (nubB l).Nodup
  | [] => List.nodup_nil
  | y :: r => by
    unfold nubB
    by_cases h : y ∈ r
    · rw [if_pos h]; exact nodup_nubB r
    · rw [if_neg h]
      exact List.nodup_cons.2 ⟨fun hy => h ((mem_nubB r y).1 hy), nodup_nubB r⟩
def sortB (l : List (List UInt8)) : List (List UInt8) := l.mergeSort fun x y => decide (x ≤ y)
theorem mem_sortB (l : List (List UInt8)) (x : List UInt8) : x ∈ sortB l ↔ x ∈ l := (List.mergeSort_perm l _).mem_iff
theorem sortB_strict (l : List (List UInt8)) (h : l.Nodup) : (sortB l).Pairwise (· < ·) := by
  have h1 : (sortB l).Pairwise (fun a b => decide (a ≤ b) = true) := List.pairwise_mergeSort (fun a b c h1 h2 => by simp only [decide_eq_true_eq] at *; exact List.le_trans h1 h2)
    (fun a b => by simp only [Bool.or_eq_true, decide_eq_true_eq]; exact List.le_total a b) l
  have h2 : (sortB l).Nodup := (List.mergeSort_perm l _).nodup_iff.2 h
  refine (h1.and h2).imp fun {a b} h => ?_
  have h3 : a ≤ b := of_decide_eq_true h.1
  exact Std.lt_of_le_of_ne h3 h.2
/-- sorted, lists of the same members, each once, are the same -/
theorem sortB_same (a b : List (List UInt8)) (ha : a.Nodup) (hb : b.Nodup) (h : ∀ x, x ∈ a ↔ x ∈ b) : sortB a = sortB b :=
  sorted_unique (· < ·) (fun a => List.lt_irrefl a) (fun a b c h1 h2 => List.lt_trans h1 h2) _ _ (sortB_strict a ha) (sortB_strict b hb) (fun x => by rw [mem_sortB, mem_sortB]; exact h x)
def toB (l : List UInt8) : ByteArray := ⟨l.toArray⟩
theorem toB_list (l : List UInt8) : (toB l).data.toList = l := rfl
theorem toB_back (k : ByteArray) : toB k.data.toList = k := kd_inj rfl
/-- the keys of a map that is made of these -/
def keysJ (ks : List ByteArray) : List ByteArray := (sortB (nubB (ks.map fun k => k.data.toList))).map toB
theorem mem_keysJ (ks : List ByteArray) (k : ByteArray) : k ∈ keysJ ks ↔ k ∈ ks := by
  unfold keysJ
  rw [List.mem_map]
  constructor
  · rintro ⟨x, hx, rfl⟩
    rw [mem_sortB, mem_nubB, List.mem_map] at hx
    obtain ⟨k', hk, rfl⟩ := hx
    rw [toB_back]; exact hk
  · intro h
    exact ⟨k.data.toList, by rw [mem_sortB, mem_nubB, List.mem_map]; exact ⟨k, h, rfl⟩, toB_back k⟩
/-- of the keys as they were collected, in whatever order -/
theorem keysJ_of (ks : List ByteArray) (acc : List ByteArray) (h1 : acc.Nodup) (h2 : ∀ k, k ∈ acc ↔ k ∈ ks) : (sortB (acc.map fun k => k.data.toList)).map toB = keysJ ks := by
  unfold keysJ
  rw [sortB_same (acc.map fun k => k.data.toList) (nubB (ks.map fun k => k.data.toList)) ?_ (nodup_nubB _) ?_]
  · refine List.Pairwise.map _ (fun a b h e => h (kd_inj e)) h1
  · intro x
    rw [mem_nubB, List.mem_map, List.mem_map]
    exact ⟨fun ⟨k, hk, e⟩ => ⟨k, (h2 k).1 hk, e⟩, fun ⟨k, hk, e⟩ => ⟨k, (h2 k).2 hk, e⟩⟩
/-- what is wrong with the first that is wrong -/
def badL : List JV → Int
  | [] => 0
  | v :: r => if rightJ v ≠ 0 then rightJ v else badL r
/-- the map of keys and values, and what is wrong -/
def makeJ (ks : List ByteArray) (l : List JV) : JV × Int :=
  if ks.length ≠ l.length then (zeroJ, 2) else if ks.all (fun k => validD k.data.toList) = false then (zeroJ, 30) else if badL l ≠ 0 then (zeroJ, badL l)
  else if rightJ (.mk 6 0 0 ⟨#[]⟩ ((keysJ ks).map fun k => l.getD (lastIx ks ks.length k) zeroJ) (keysJ ks)) ≠ 0 then (zeroJ, rightJ (.mk 6 0 0 ⟨#[]⟩ ((keysJ ks).map fun k => l.getD (lastIx ks ks.length k) zeroJ) (keysJ ks)))
  else (.mk 6 0 0 ⟨#[]⟩ ((keysJ ks).map fun k => l.getD (lastIx ks ks.length k) zeroJ) (keysJ ks), 0)
theorem badL_get : ∀ (l : List JV) (j : Nat) (h : j < l.length), (∀ i (hi : i < l.length), i < j → rightJ l[i] = 0) → rightJ l[j] ≠ 0 → badL l = rightJ l[j]
  | v :: r, 0, _, _, h0 => by
    have h0 : rightJ v ≠ 0 := h0
    show (if rightJ v ≠ 0 then rightJ v else badL r) = rightJ v
    rw [if_pos h0]
  | v :: r, j + 1, h, h1, h0 => by
    have hv : rightJ v = 0 := h1 0 (by simp) (by omega)
    simp only [badL]
    rw [if_neg (by rw [hv]; simp)]
    exact badL_get r j (by simpa using h) (fun i hi hij => h1 (i + 1) (by rw [List.length_cons]; omega) (by omega)) h0
theorem badL_zero : ∀ (l : List JV), (∀ i (hi : i < l.length), rightJ l[i] = 0) → badL l = 0
  | [], _ => rfl
  | v :: r, h => by
    have hv : rightJ v = 0 := h 0 (by simp)
    simp only [badL]
    rw [if_neg (by rw [hv]; simp)]
    exact badL_zero r (fun i hi => h (i + 1) (by rw [List.length_cons]; omega))
end Th
