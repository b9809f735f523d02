/- Lemmas and contracts. Conditions: those that each lemma names. -/
import Derived.Test.YtakncilicoefdaaGreatDoorPt28
set_option maxRecDepth 100000
set_option maxHeartbeats 4000000
namespace Go.Proofs.YtakncilicoefdaaGreatDoor
open Go Go.RowKit Go.Proofs Th
set_option maxRecDepth 8000
attribute [local go_sem] Hq GJ EN CD AF K3 KS GA List.map_append List.map_cons List.map_nil List.length_map
variable {G : World → CS → Prop}
def toL (b : ByteArray) : List UInt8 := b.data.toList
theorem Qz : Mo [] = BG 4 [] := rfl
theorem RR (n : NJ) : Mo [n] = n := rfl
theorem Ry (n m : NJ) (r : List NJ) : Mo (n :: m :: r) = BG 4 (n :: m :: r) := rfl
attribute [local go_sem] Qz RR Ry
theorem Li (b : ByteArray) : (toL b).length = b.size := rfl
def Wq (G : World → CS → Prop) : Prop := ∀ s : ByteArray, s.size ≤ 50000 → ACalls Tryz.prog G 23 none [sI s] (.ret (.tup [.sl ((B5 (toL s)).1.map Db) false, iI (B5 (toL s)).2.1, iI (B5 (toL s)).2.2]) [])
theorem SG (L : List UInt8) : ∀ t ∈ (B5 L).1, t.kind = 4 → t.text.data.toList.head? ≠ some 45 := by
 have one : ∀ b, (AQ L 48 b).1.kind = 4 → (AQ L 48 b).1.text.data.toList.head? ≠ some 45 := fun b hk => by
  rw [ED] at hk ⊢; unfold Cf at hk ⊢; cases hd : L.drop (Bf L b) with
  | nil => rw [hd] at hk; cases hk
  | cons c r =>
   rw [hd] at hk; dsimp only at hk ⊢; by_cases h34 : c = 34
   ·rw [if_pos h34] at hk
    split at hk <;> cases hk
   rw [if_neg h34] at hk ⊢; by_cases h4 : (BA (c :: r)).1 = 0
   ·rw [if_pos h4] at hk; cases hk
   rw [if_neg h4] at hk ⊢; rcases FZ c r with ⟨h, _⟩ | ⟨k, n, h, h1, h2, h3, h5, h6, h7⟩
   ·rw [h] at h4; exact absurd rfl h4
   rw [h] at hk ⊢; obtain rfl : k = 4 := hk; obtain ⟨m, rfl⟩ : ∃ m, n = m + 1 := ⟨n - 1, by omega⟩
   show ((c :: r).take (m + 1)).head? ≠ some 45
   rw [List.take_succ_cons]; intro hc; injection hc with hc; subst hc; rw [List.take_succ_cons] at h6; generalize r.take m = u at h6; have e1 : AU (45 :: u) = false := by simp [AU, Ba]
   have e4 : Dt (45 :: u) = false := by
    cases hq : Dt (45 :: u) with
    | false => rfl
    | true => have := Fr 45 u hq; cases this
   unfold CR at h6; rw [e1, e4, if_neg (by decide), if_neg (fun h => by cases h.1), if_neg (fun h => by cases h.1), if_neg (by decide)] at h6; split at h6 <;> omega
 have go : ∀ (n a : Nat) (acc : List Tf), (∀ t ∈ acc, t.kind = 4 → t.text.data.toList.head? ≠ some 45) → ∀ t ∈ (CE L n a acc).1, t.kind = 4 → t.text.data.toList.head? ≠ some 45 := by
  intro n; induction n with
  | zero => intro a acc h; exact h
  | succ n ih =>
   intro a acc h; simp only [CE]; split
   ·intro t ht; cases ht
   split
   ·exact h
   refine ih _ _ fun t ht => ?_
   rcases List.mem_append.1 ht with ht | ht
   ·exact h t ht
   rw [List.mem_singleton.1 ht]; exact one a
 unfold B5; split
 ·intro t ht; cases ht
 exact go _ _ _ fun t ht => by cases ht
theorem Si (s : List UInt8) (b : Nat) (hs : s.length ≤ 50000) (hb : b + s.length ≤ 1000000) (hz : ∀ t ∈ (B5 s).1, (t.kind, t.text) ∈ Z9) : EB (G1 s b) := by
 have h1 := Su s; refine ⟨hz, Nat.le_trans (RT s) (by omega), fun t ht => ?_, hb, fun t ht => ?_, fun t ht _ => h1 t ht, SG s⟩
 ·have := h1 t ht; omega
 have := h1 t ht; omega
end Go.Proofs.YtakncilicoefdaaGreatDoor
