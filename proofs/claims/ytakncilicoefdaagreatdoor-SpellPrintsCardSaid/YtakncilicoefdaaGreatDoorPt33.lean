/- Lemmas and contracts. Conditions: those that each lemma names. -/
import Derived.Test.YtakncilicoefdaaGreatDoorPt32
set_option maxRecDepth 100000
set_option maxHeartbeats 4000000
namespace Go.Proofs.YtakncilicoefdaaGreatDoor
open Go Go.RowKit Go.Proofs Th
set_option maxRecDepth 8000
attribute [local go_sem] sel
variable {G : World → CS → Prop}
theorem Iw {s : ByteArray} {k : Nat} (h : k < s.size) : s.data.toList[k]? = some s[k] := by
 have hl : k < s.data.toList.length := by rw [Al]; exact h
 rw [List.getElem?_eq_getElem hl]; rfl
theorem SY {s : ByteArray} {k : Nat} (h : k < s.size) (hb : (if k = 0 then Ba s[k] else Bg s[k]) = false) : B4 s = false := by
 unfold B4; cases hn : AU s.data.toList with
 | false => rfl
 | true => have := ((Fs s).1 hn).2 k h; rw [hb] at this; cases this
theorem Tr {s : ByteArray} (h : ∀ i (h : i < s.size), (if i = 0 then Ba s[i] else Bg s[i]) = true) : B4 s = !decide (s = ⟨#[]⟩) := by
 unfold B4; by_cases h0 : s = ⟨#[]⟩
 ·subst h0; rfl
 have h1 : 0 < s.size := by
  rcases Nat.eq_zero_or_pos s.size with h2 | h2
  ·exact absurd (ByteArray.ext (Array.eq_empty_of_size_eq_zero h2)) h0
  exact h2
 rw [decide_eq_false h0, (Fs s).2 ⟨h1, h⟩]; rfl
def okN (s : ByteArray) (k : Nat) : Prop := ∀ i (h : i < s.size), i < k → (if i = 0 then Ba s[i] else Bg s[i]) = true
theorem Ro {s : ByteArray} {k : Nat} {c : UInt8} (hg : okN s k) {hk : k < s.size} (hc : s[k] = c) (h : Ba c = true) : okN s (k + 1) := by
 intro i hi hik; by_cases e : i = k
 ·subst e
  rw [hc]; unfold Bg; rw [h]; simp
 exact hg i hi (by omega)
theorem SE {s : ByteArray} {k : Nat} {c : UInt8} (hg : okN s k) (hk0 : k ≠ 0) {hk : k < s.size} (hc : s[k] = c) (h : Bo c = true) : okN s (k + 1) := by
 intro i hi hik; by_cases e : i = k
 ·subst e
  rw [hc, if_neg hk0]; unfold Bg; rw [h]; simp
 exact hg i hi (by omega)
theorem Wj {s : ByteArray} {k : Nat} {c : UInt8} {hk : k < s.size} (hc : s[k] = c) (hl : ¬ (97 ≤ c.toNat ∧ c.toNat ≤ 122 ∨ 65 ≤ c.toNat ∧ c.toNat ≤ 90 ∨ c.toNat = 95)) (hd : ¬ (k ≠ 0 ∧ 48 ≤ c.toNat ∧ c.toNat ≤ 57)) : (if k = 0 then Ba s[k] else Bg s[k]) = false := by
 have h1 : Ba c = false := by
  unfold Ba; rw [decide_eq_false (by omega), decide_eq_false (by omega), decide_eq_false (by omega)]; rfl
 rw [hc]; by_cases h0 : k = 0
 ·rw [if_pos h0, h1]
 have h2 : Bo c = false := by
  unfold Bo; simp; omega
 rw [if_neg h0]; unfold Bg; rw [h1, h2]; rfl
theorem Ez {W : World} {S : CS} {us : List Value} {es : List (List IV)} {fl : Bool} {r : List IV} (h : RepL W S (.sl es fl :: r) us) : es.length ≤ 140737488351232 := by
 obtain ⟨hlen, hr⟩ := h; rcases us with _ | ⟨u, us⟩
 ·cases hlen
 have h0 := hr 0 _ u rfl rfl; cases h0 with
 | sl _ _ _ _ hl2 => exact hl2
theorem Ld (gk : GK G) (s : ByteArray) (hs : s.size ≤ 140737488351232) : ACalls Tryz.prog G 96 none [sI s] (.ret (bI (B4 s)) []) := by
 refine ACalls.enter Tryz.func96 rfl rfl gk Tryz.ntmps96 fun X F => ?_
 apply Ar F; go_simp; apply Ar F; go_simp; (repeat apply Aq); apply Ab; (repeat apply Aq); refine A9 [0, 7, 8] [1000] (by decide) (fun g t => ∃ k : Nat, t = mkS [(0, .im (sI s)), (7, .im (iI s.size)), (8, .im (iI k))] [(1000, .none)] ∧ g = s.size - k ∧ k ≤ s.size ∧ okN s k) (s.size) ?_ ?_
 ·refine ⟨0, ?_, by omega, by omega, fun i h h2 => absurd h2 (Nat.not_lt_zero i)⟩
  go_simp
 rintro g t ⟨k, rfl, rfl, hk, hg⟩; by_cases hkt : k < s.size
 ·have hkI : (k : Int) < (s.size : Int) := by omega
  have hrk := rng ((k : Int) + 1) (by omega); have hat := Iw hkt; obtain ⟨c, hc⟩ : ∃ c, s[k] = c := ⟨_, rfl⟩
  rw [hc] at hat; have hcd : s.data[k]'hkt = c := hc; by_cases hl : 97 ≤ c.toNat ∧ c.toNat ≤ 122 ∨ 65 ≤ c.toNat ∧ c.toNat ≤ 90 ∨ c.toNat = 95
  ·have hgo : okN s (k + 1) := Ro hg hc (by unfold Ba; rcases hl with h | h | h <;> simp [h])
   by_cases d1 : (97 : Int) ≤ (c.toNat : Int) <;> by_cases d2 : (c.toNat : Int) ≤ 122 <;> by_cases d3 : (65 : Int) ≤ (c.toNat : Int) <;> by_cases d4 : (c.toNat : Int) ≤ 90 <;> by_cases d5 : (c.toNat : Int) = 95 <;> by_cases d6 : (c.toNat : Int) < 48 <;> by_cases d7 : (57 : Int) < (c.toNat : Int) <;> (try (exfalso; omega))
   all_goals
    apply Ar F; go_simp; (repeat apply Aq); refine At (by go_simp) ?_; apply As; go_simp; (repeat apply Aq); apply Ab; apply Ar F; go_simp; apply Ar F; go_simp; (repeat apply Aq); refine Ah F [0, 1, 2, 3] [4, 5, 6, 7, 8, 9, 10, 11, 12, 13, 14, 15, 16, 17, 18] (by rfl) ?_; go_simp; apply lK 4; go_simp; apply lK 5; go_simp; refine Ac ?_; go_simp; (repeat apply Aq); refine Ah F [0, 1, 2, 3] [4, 5, 6, 7, 8, 9, 10, 11, 12, 13] (by rfl) ?_; go_simp; apply lK 5; go_simp; refine Ac ?_; go_simp; (repeat apply Aq); refine Af (by go_simp) ?_; apply As; go_simp; apply Ar F; go_simp; refine ⟨s.size - (k + 1), by omega, k + 1, ?_, by omega, by omega, hgo⟩; go_simp
  by_cases hd : k ≠ 0 ∧ 48 ≤ c.toNat ∧ c.toNat ≤ 57
  ·have hgo : okN s (k + 1) := SE hg hd.1 hc (by unfold Bo; simp [hd.2])
   have hk0 : ¬ (k : Int) = 0 := by omega
   by_cases d1 : (97 : Int) ≤ (c.toNat : Int) <;> by_cases d2 : (c.toNat : Int) ≤ 122 <;> by_cases d3 : (65 : Int) ≤ (c.toNat : Int) <;> by_cases d4 : (c.toNat : Int) ≤ 90 <;> by_cases d5 : (c.toNat : Int) = 95 <;> by_cases d6 : (c.toNat : Int) < 48 <;> by_cases d7 : (57 : Int) < (c.toNat : Int) <;> (try (exfalso; omega))
   all_goals
    apply Ar F; go_simp; (repeat apply Aq); refine At (by go_simp) ?_; apply As; go_simp; (repeat apply Aq); apply Ab; apply Ar F; go_simp; apply Ar F; go_simp; (repeat apply Aq); refine Ah F [0, 1, 2, 3] [4, 5, 6, 7, 8, 9, 10, 11, 12, 13, 14, 15, 16, 17, 18] (by rfl) ?_; go_simp; apply lK 4; go_simp; apply lK 5; go_simp; refine Ac ?_; go_simp; (repeat apply Aq); refine Ah F [0, 1, 2, 3] [4, 5, 6, 7, 8, 9, 10, 11, 12, 13] (by rfl) ?_; go_simp; apply lK 5; go_simp; refine Ac ?_; go_simp; (repeat apply Aq); refine Af (by go_simp) ?_; apply As; go_simp; apply Ar F; go_simp; refine ⟨s.size - (k + 1), by omega, k + 1, ?_, by omega, by omega, hgo⟩; go_simp
  have hbad := SY hkt (Wj hc hl hd); rw [hbad]; by_cases hk0 : k = 0
  ·subst hk0
   by_cases d1 : (97 : Int) ≤ (c.toNat : Int) <;> by_cases d2 : (c.toNat : Int) ≤ 122 <;> by_cases d3 : (65 : Int) ≤ (c.toNat : Int) <;> by_cases d4 : (c.toNat : Int) ≤ 90 <;> by_cases d5 : (c.toNat : Int) = 95 <;> by_cases d6 : (c.toNat : Int) < 48 <;> by_cases d7 : (57 : Int) < (c.toNat : Int) <;> (try (exfalso; omega))
   all_goals
    apply Ar F; go_simp; (repeat apply Aq); refine At (by go_simp) ?_; apply As; go_simp; (repeat apply Aq); apply Ab; apply Ar F; go_simp; apply Ar F; go_simp; (repeat apply Aq); refine Ah F [0, 1, 2, 3] [4, 5, 6, 7, 8, 9, 10, 11, 12, 13, 14, 15, 16, 17, 18] (by rfl) ?_; go_simp; apply lK 4; go_simp; apply lK 5; go_simp; refine Ac ?_; go_simp; (repeat apply Aq); refine Ah F [0, 1, 2, 3] [4, 5, 6, 7, 8, 9, 10, 11, 12, 13] (by rfl) ?_; go_simp; apply lK 5; go_simp; refine Ac ?_; go_simp; (repeat apply Aq); refine At (by go_simp) ?_; apply Ar F; go_simp; apply Au; go_simp
  have hk0I : ¬ (k : Int) = 0 := by omega
  by_cases d1 : (97 : Int) ≤ (c.toNat : Int) <;> by_cases d2 : (c.toNat : Int) ≤ 122 <;> by_cases d3 : (65 : Int) ≤ (c.toNat : Int) <;> by_cases d4 : (c.toNat : Int) ≤ 90 <;> by_cases d5 : (c.toNat : Int) = 95 <;> by_cases d6 : (c.toNat : Int) < 48 <;> by_cases d7 : (57 : Int) < (c.toNat : Int) <;> (try (exfalso; omega))
  all_goals
   apply Ar F; go_simp; (repeat apply Aq); refine At (by go_simp) ?_; apply As; go_simp; (repeat apply Aq); apply Ab; apply Ar F; go_simp; apply Ar F; go_simp; (repeat apply Aq); refine Ah F [0, 1, 2, 3] [4, 5, 6, 7, 8, 9, 10, 11, 12, 13, 14, 15, 16, 17, 18] (by rfl) ?_; go_simp; apply lK 4; go_simp; apply lK 5; go_simp; refine Ac ?_; go_simp; (repeat apply Aq); refine Ah F [0, 1, 2, 3] [4, 5, 6, 7, 8, 9, 10, 11, 12, 13] (by rfl) ?_; go_simp; apply lK 5; go_simp; refine Ac ?_; go_simp; (repeat apply Aq); refine At (by go_simp) ?_; apply Ar F; go_simp; apply Au; go_simp
 have hkI : ¬ (k : Int) < (s.size : Int) := by omega
 rw [Tr (fun i h => hg i h (by omega))]; apply Ar F; go_simp; (repeat apply Aq); refine Af (by go_simp) ?_; apply Ae; go_simp; apply Ar F; go_simp; apply Au; go_simp
theorem Pe (gk : GK G) (s : ByteArray) (hs : s.size ≤ 140737488351232) : ACalls Tryz.prog G 97 none [sI s] (.ret (bI (CK s)) []) := by
 have cn := Ld gk s hs; unfold CK; generalize B4 s = nb at cn; refine ACalls.enter Tryz.func97 rfl rfl gk Tryz.ntmps97 fun X F => ?_
 repeat' first
  | refine AW.seq ?_
  | refine AW.block ?_
  | (refine Ao F ?_; go_simp)
  | (refine Ak ?_; go_simp)
  | (refine AW.skip ?_; go_simp)
  | (refine AW.exit ?_; go_simp)
  | (refine AW.ret ?_; go_simp)
  | refine ⟨fun h => ?_, fun h => ?_⟩
  | (refine ⟨_, cn, ?_⟩; go_simp)
  | intro h
 all_goals first
  | rfl
  | simp_all [inB, words13, eq_comm]
theorem OY {l : List ByteArray} {s : ByteArray} : inB l s = true ↔ s ∈ l := by
 unfold inB; rw [List.any_eq_true]; constructor
 ·rintro ⟨x, hx, h⟩
  rw [decide_eq_true_eq] at h; exact h ▸ hx
 intro h; exact ⟨s, h, by simp⟩
def Gx : List ByteArray → ByteArray → Nat → Int
 | [], _, _ => -1
 | x :: r, s, k => if s = x then (k : Int) else Gx r s (k + 1)
theorem Pk : ∀ (l : List ByteArray) (s : ByteArray) (k : Nat), decide (0 ≤ Gx l s k) = inB l s
 | [], _, _ => rfl
 | x :: r, s, k => by
  unfold Gx; by_cases h : s = x
  ·rw [if_pos h]
   have : inB (x :: r) s = true := OY.2 (by rw [h]; exact List.mem_cons_self); rw [this]; exact decide_eq_true (by omega)
  rw [if_neg h, Pk r s (k + 1)]; unfold inB; rw [List.any_cons, decide_eq_false (fun e => h e.symm), Bool.false_or]
theorem SO (gk : GK G) (l : List ByteArray) (s : ByteArray) : ACalls Tryz.prog G 126 none [.sl (l.map fun x => [sI x]) false, sI s] (.ret (iI (Gx l s 0)) []) := by
 by_cases hlen : l.length ≤ 140737488351232
 case neg => exact ⟨⟨_, Tryz.func126, rfl, rfl⟩, fun W S p us hG hSb hrc hrep => absurd (by have := Ez hrep; rwa [List.length_map] at this) hlen⟩
 obtain ⟨z, hz⟩ : ∃ z, Gx l s 0 = z := ⟨_, rfl⟩
 rw [hz]; refine ACalls.enter Tryz.func126 rfl rfl gk Tryz.ntmps126 fun X F => ?_
 apply Ar F; go_simp; apply Ar F; go_simp; (repeat apply Aq); apply Ab; (repeat apply Aq); refine A9 [0, 1, 6, 7, 8] [1000] (by decide) (fun g t => ∃ k : Nat, t = mkS [(0, .im (.sl (l.map fun x => [sI x]) false)), (1, .im (sI s)), (6, .im (.sl (l.map fun x => [sI x]) false)), (7, .im (iI l.length)), (8, .im (iI k))] [(1000, .none)] ∧ g = l.length - k ∧ k ≤ l.length ∧ Gx (l.drop k) s k = z) (l.length) ?_ ?_
 ·refine ⟨0, ?_, by omega, by omega, hz⟩
  go_simp
 rintro g t ⟨k, rfl, rfl, hk, hg⟩; by_cases hkt : k < l.length
 ·have hkI : (k : Int) < (l.length : Int) := by omega
  have hrk := rng ((k : Int) + 1) (by omega); rw [List.drop_eq_getElem_cons hkt] at hg; unfold Gx at hg; by_cases he : s = l[k]
  ·rw [if_pos he] at hg
   subst hg; apply Ar F; go_simp; (repeat apply Aq); refine At (by go_simp) ?_; apply As; go_simp; (repeat apply Aq); apply Ab; apply Ar F; go_simp; apply Ar F; go_simp; (repeat apply Aq); refine At (by go_simp) ?_; apply Ar F; go_simp; apply Au; go_simp
  rw [if_neg he] at hg; apply Ar F; go_simp; (repeat apply Aq); refine At (by go_simp) ?_; apply As; go_simp; (repeat apply Aq); apply Ab; apply Ar F; go_simp; apply Ar F; go_simp; (repeat apply Aq); refine Af (by go_simp) ?_; apply As; go_simp; apply Ar F; go_simp; refine ⟨l.length - (k + 1), by omega, k + 1, ?_, rfl, by omega, hg⟩; go_simp
 have hkI : ¬ (k : Int) < (l.length : Int) := by omega
 rw [List.drop_eq_nil_of_le (by omega)] at hg; unfold Gx at hg; subst hg; apply Ar F; go_simp; (repeat apply Aq); refine Af (by go_simp) ?_; apply Ae; go_simp; apply Ar F; go_simp; apply Au; go_simp
theorem OH (gk : GK G) (l : List ByteArray) (s : ByteArray) : ACalls Tryz.prog G 95 none [.sl (l.map fun x => [sI x]) false, sI s] (.ret (bI (inB l s)) []) := by
 have ci := SO gk l s; rw [← Pk l s 0]; generalize Gx l s 0 = z at *; refine ACalls.enter Tryz.func95 rfl rfl gk Tryz.ntmps95 fun X F => ?_
 apply Ar F; go_simp; apply Ar F; go_simp; refine ⟨_, ci, ?_⟩; go_simp; apply Au; go_simp
theorem M3 (gk : GK G) (l : List ByteArray) (s : ByteArray) : ACalls Tryz.prog G 64 none [sI s, .sl (l.map fun x => [sI x]) false] (.ret (bI (inB l s)) []) := by
 have ci := OH gk l s; refine ACalls.enter Tryz.func64 rfl rfl gk Tryz.ntmps64 fun X F => ?_
 apply Ar F; go_simp; apply Ar F; go_simp; refine ⟨_, ci, ?_⟩; go_simp; apply Au; go_simp
open Go Go.RowKit Go.Proofs Th
theorem Vs (f : Nat) : IHP GX f := UE gkX Xi f
theorem R8 (E : Env) (hE : EB E) (f : Nat) (r : PR NJ) (h : BO f E .whole 0 = some r) : ACalls Tryz.prog GX 25 (some (A4 E 0)) [] (CU E r) := Vs f f (Nat.le_refl f) E hE .whole 0 r h
end Go.Proofs.YtakncilicoefdaaGreatDoor
