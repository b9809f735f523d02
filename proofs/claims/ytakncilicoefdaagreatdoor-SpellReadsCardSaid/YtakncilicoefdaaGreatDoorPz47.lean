/- Lemmas and contracts. Conditions: those that each lemma names. -/
import Derived.Test.YtakncilicoefdaaGreatDoorPz46
set_option maxRecDepth 100000
set_option maxHeartbeats 4000000
namespace Go.Proofs.YtakncilicoefdaaGreatDoor
open Go Go.RowKit Go.Proofs Th
theorem Yd {k : Int} {s : ByteArray} {m e : Int} {l : List NJ} {a : List ByteArray} (h : Ac (.mk k s m e l a) = true) : 1 ≤ k ∧ k ≤ 26 := by
 refine Decidable.byContradiction fun hc => ?_
 have hk : ∀ i : Int, 1 ≤ i → i ≤ 26 → ¬ k = i := fun i h1 h2 h3 => hc (by omega)
 unfold Ac at h; simp only [hk 1 (by decide) (by decide), hk 2 (by decide) (by decide), hk 3 (by decide) (by decide), hk 4 (by decide) (by decide), hk 5 (by decide) (by decide), hk 6 (by decide) (by decide), hk 7 (by decide) (by decide), hk 8 (by decide) (by decide), hk 9 (by decide) (by decide), hk 10 (by decide) (by decide), hk 11 (by decide) (by decide), hk 12 (by decide) (by decide), hk 13 (by decide) (by decide), hk 14 (by decide) (by decide), hk 15 (by decide) (by decide), hk 16 (by decide) (by decide), hk 17 (by decide) (by decide), hk 18 (by decide) (by decide), hk 19 (by decide) (by decide), hk 20 (by decide) (by decide), hk 21 (by decide) (by decide), hk 22 (by decide) (by decide), hk 23 (by decide) (by decide), hk 24 (by decide) (by decide), hk 25 (by decide) (by decide), hk 26 (by decide) (by decide), or_self, if_false, Bool.false_eq_true] at h
mutual
/-- what may be, and whose texts are short, has all numbers in range -/
theorem Tm : ∀ n : NJ, okJ n = true → smB n = true → FE n
 | .mk k s m e l a, h, hw => by
  rw [okJ, Bool.and_eq_true] at h; obtain ⟨h1, h2⟩ := h; unfold ES at h1; rw [Bool.and_eq_true] at h1; obtain ⟨hb, hf⟩ := h1; obtain ⟨_, bm, _⟩ := H7 hb; have hk := Yd hf; obtain ⟨s1, s2, _, s4⟩ := FY.1 hw; have hme : I64 m ∧ I64 e := by
   rcases bm with rfl | ⟨rfl, rfl⟩
   ·simp [Ac] at hf
    have hr : right m e = true := hf.1.2; have hx := DX hr; exact ⟨I64.right hr, ⟨by have := hx.1; omega, by have := hx.2; omega⟩⟩
   exact ⟨⟨by decide, by decide⟩, ⟨by decide, by decide⟩⟩
  exact ⟨⟨by omega, by omega⟩, hme.1, hme.2, by omega, fun x hx => by have := MJ hx; omega, Ry l h2 ((MU l).2 s4)⟩
theorem Ry : ∀ l : List NJ, okL l = true → KN l = true → JL l
 | [], _, _ => trivial
 | x :: r, h, hw => by
  rw [okL, Bool.and_eq_true] at h; rw [KN, Bool.and_eq_true] at hw; exact ⟨Tm x h.1 hw.1, Ry r h.2 hw.2⟩
end
structure ReadN (n : NJ) : Prop where
 ok : okJ n = true
 d : AB n ≤ 48
 c : cz n ≤ 128000
theorem UN {P : List UInt8} {n : NJ} (hP : P.length ≤ 500) (h : Flt P n) (hd : AB n ≤ 48) : ReadN n :=
 ⟨(LB hP h).1, hd, (LB hP h).2⟩
variable {n m : NJ}
theorem ReadN.size (h : ReadN n) : (spJ n).size ≤ 8388608000 := by
 have h1 := Gz (AB n) n (Nat.le_refl _) h.ok; have h2 := Nat.mul_le_mul (Z2 h.d) h.c; omega
theorem ReadN.sm (h : ReadN n) : smB n = true := Og (AB n) n (Nat.le_refl _) h.d h.ok (by have := h.c; omega)
theorem ReadN.nok (h : ReadN n) : FE n := Tm n h.ok h.sm
theorem ReadN.may (h : ReadN n) : De 48 n = true := by rw [Mb, h.ok, decide_eq_true h.d]; rfl
theorem ReadN.right (h : ReadN n) : ACalls Tryz.prog GY 11 none [.agg (Al n)] (.ret (bI true) []) := by
 have := K8 gkY JB JC n h.nok; rw [h.may] at this; exact this
theorem ReadN.print (h : ReadN n) : ACalls Tryz.prog GY 9 none [.agg (Al n)] (.ret (.tup [sI (spJ n), iI 0]) []) := by
 have := I9 gkY JB JC Qd PO n h.nok fun _ => ⟨by have := h.size; omega, h.sm⟩
 rw [show prJ n = (spJ n, 0) from if_pos h.may] at this; exact this
theorem RZ (hn : ReadN n) (hm : ReadN m) : (spJ n = spJ m ∧ C9 n m = true) ∨ (¬ spJ n = spJ m ∧ C9 n m = false) := by
 by_cases h : spJ n = spJ m
 ·obtain rfl := Tw (AB n) n m (Nat.le_refl _) hn.d hm.d hn.ok hm.ok h
  exact .inl ⟨rfl, KS n⟩
 refine .inr ⟨h, ?_⟩; cases hs : C9 n m with
 | false => rfl
 | true => exact absurd (by rw [J2 n m hs]) h
end Go.Proofs.YtakncilicoefdaaGreatDoor
