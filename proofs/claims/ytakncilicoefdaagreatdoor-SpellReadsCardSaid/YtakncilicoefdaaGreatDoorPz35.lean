/- Lemmas and contracts. Conditions: those that each lemma names. -/
import Derived.Test.YtakncilicoefdaaGreatDoorPz34
set_option maxRecDepth 100000
set_option maxHeartbeats 4000000
namespace Go.Proofs.YtakncilicoefdaaGreatDoor
open Go Go.RowKit Go.Proofs Th
set_option maxRecDepth 8000
attribute [local go_sem] sel
variable {G : World → CS → Prop}
theorem XJ {s : ByteArray} {k : Nat} (h : k < s.size) : s.data.toList[k]? = some s[k] := by
 have hl : k < s.data.toList.length := by rw [Ai]; exact h
 rw [List.getElem?_eq_getElem hl]; rfl
theorem Vj {s : ByteArray} {k : Nat} (h : k < s.size) (hb : (if k = 0 then Bl s[k] else Bz s[k]) = false) : Bf s = false := by
 unfold Bf; cases hn : Bc s.data.toList with
 | false => rfl
 | true => have := ((Py s).1 hn).2 k h; rw [hb] at this; cases this
theorem Xe {s : ByteArray} (h : ∀ i (h : i < s.size), (if i = 0 then Bl s[i] else Bz s[i]) = true) : Bf s = !decide (s = ⟨#[]⟩) := by
 unfold Bf; by_cases h0 : s = ⟨#[]⟩
 ·subst h0; rfl
 have h1 : 0 < s.size := by
  rcases Nat.eq_zero_or_pos s.size with h2 | h2
  ·exact absurd (ByteArray.ext (Array.eq_empty_of_size_eq_zero h2)) h0
  exact h2
 rw [decide_eq_false h0, (Py s).2 ⟨h1, h⟩]; rfl
def okN (s : ByteArray) (k : Nat) : Prop := ∀ i (h : i < s.size), i < k → (if i = 0 then Bl s[i] else Bz s[i]) = true
theorem Ug {s : ByteArray} {k : Nat} {c : UInt8} (hg : okN s k) {hk : k < s.size} (hc : s[k] = c) (h : Bl c = true) : okN s (k + 1) := by
 intro i hi hik; by_cases e : i = k
 ·subst e
  rw [hc]; unfold Bz; rw [h]; simp
 exact hg i hi (by omega)
theorem WG {s : ByteArray} {k : Nat} {c : UInt8} (hg : okN s k) (hk0 : k ≠ 0) {hk : k < s.size} (hc : s[k] = c) (h : Bs c = true) : okN s (k + 1) := by
 intro i hi hik; by_cases e : i = k
 ·subst e
  rw [hc, if_neg hk0]; unfold Bz; rw [h]; simp
 exact hg i hi (by omega)
theorem Zg {s : ByteArray} {k : Nat} {c : UInt8} {hk : k < s.size} (hc : s[k] = c) (hl : ¬ (97 ≤ c.toNat ∧ c.toNat ≤ 122 ∨ 65 ≤ c.toNat ∧ c.toNat ≤ 90 ∨ c.toNat = 95)) (hd : ¬ (k ≠ 0 ∧ 48 ≤ c.toNat ∧ c.toNat ≤ 57)) : (if k = 0 then Bl s[k] else Bz s[k]) = false := by
 have h1 : Bl c = false := by
  unfold Bl; rw [decide_eq_false (by omega), decide_eq_false (by omega), decide_eq_false (by omega)]; rfl
 rw [hc]; by_cases h0 : k = 0
 ·rw [if_pos h0, h1]
 have h2 : Bs c = false := by
  unfold Bs; simp; omega
 rw [if_neg h0]; unfold Bz; rw [h1, h2]; rfl
theorem Gu {W : World} {S : CS} {us : List Value} {es : List (List IV)} {fl : Bool} {r : List IV} (h : RepL W S (.sl es fl :: r) us) : es.length ≤ 140737488351232 := by
 obtain ⟨hlen, hr⟩ := h; rcases us with _ | ⟨u, us⟩
 ·cases hlen
 have h0 := hr 0 _ u rfl rfl; cases h0 with
 | sl _ _ _ _ hl2 => exact hl2
theorem MN (gk : GK G) (s : ByteArray) (hs : s.size ≤ 140737488351232) : ACalls Tryz.prog G 96 none [sI s] (.ret (bI (Bf s)) []) := by
 refine ACalls.enter Tryz.func96 rfl rfl gk Tryz.ntmps96 fun X F => ?_
 apply Ar F; go_simp; apply Ar F; go_simp; (repeat apply Aq); apply Ab; (repeat apply Aq); refine Cb [0, 7, 8] [1000] (by decide) (fun g t => ∃ k : Nat, t = mkS [(0, .im (sI s)), (7, .im (iI s.size)), (8, .im (iI k))] [(1000, .none)] ∧ g = s.size - k ∧ k ≤ s.size ∧ okN s k) (s.size) ?_ ?_
 ·refine ⟨0, ?_, by omega, by omega, fun i h h2 => absurd h2 (Nat.not_lt_zero i)⟩
  go_simp
 rintro g t ⟨k, rfl, rfl, hk, hg⟩; by_cases hkt : k < s.size
 ·have hkI : (k : Int) < (s.size : Int) := by omega
  have hrk := rng ((k : Int) + 1) (by omega); have hat := XJ hkt; obtain ⟨c, hc⟩ : ∃ c, s[k] = c := ⟨_, rfl⟩
  rw [hc] at hat; have hcd : s.data[k]'hkt = c := hc; by_cases hl : 97 ≤ c.toNat ∧ c.toNat ≤ 122 ∨ 65 ≤ c.toNat ∧ c.toNat ≤ 90 ∨ c.toNat = 95
  ·have hgo : okN s (k + 1) := Ug hg hc (by unfold Bl; rcases hl with h | h | h <;> simp [h])
   by_cases d1 : (97 : Int) ≤ (c.toNat : Int) <;> by_cases d2 : (c.toNat : Int) ≤ 122 <;> by_cases d3 : (65 : Int) ≤ (c.toNat : Int) <;> by_cases d4 : (c.toNat : Int) ≤ 90 <;> by_cases d5 : (c.toNat : Int) = 95 <;> by_cases d6 : (c.toNat : Int) < 48 <;> by_cases d7 : (57 : Int) < (c.toNat : Int) <;> (try (exfalso; omega))
   all_goals
    apply Ar F; go_simp; (repeat apply Aq); refine At (by go_simp) ?_; apply As; go_simp; (repeat apply Aq); apply Ab; apply Ar F; go_simp; apply Ar F; go_simp; (repeat apply Aq); refine AA F [0, 1, 2, 3] [4, 5, 6, 7, 8, 9, 10, 11, 12, 13, 14, 15, 16, 17, 18] (by rfl) ?_; go_simp; apply lK 4; go_simp; apply lK 5; go_simp; refine Ap ?_; go_simp; (repeat apply Aq); refine AA F [0, 1, 2, 3] [4, 5, 6, 7, 8, 9, 10, 11, 12, 13] (by rfl) ?_; go_simp; apply lK 5; go_simp; refine Ap ?_; go_simp; (repeat apply Aq); refine Af (by go_simp) ?_; apply As; go_simp; apply Ar F; go_simp; refine ⟨s.size - (k + 1), by omega, k + 1, ?_, by omega, by omega, hgo⟩; go_simp
  by_cases hd : k ≠ 0 ∧ 48 ≤ c.toNat ∧ c.toNat ≤ 57
  ·have hgo : okN s (k + 1) := WG hg hd.1 hc (by unfold Bs; simp [hd.2])
   have hk0 : ¬ (k : Int) = 0 := by omega
   by_cases d1 : (97 : Int) ≤ (c.toNat : Int) <;> by_cases d2 : (c.toNat : Int) ≤ 122 <;> by_cases d3 : (65 : Int) ≤ (c.toNat : Int) <;> by_cases d4 : (c.toNat : Int) ≤ 90 <;> by_cases d5 : (c.toNat : Int) = 95 <;> by_cases d6 : (c.toNat : Int) < 48 <;> by_cases d7 : (57 : Int) < (c.toNat : Int) <;> (try (exfalso; omega))
   all_goals
    apply Ar F; go_simp; (repeat apply Aq); refine At (by go_simp) ?_; apply As; go_simp; (repeat apply Aq); apply Ab; apply Ar F; go_simp; apply Ar F; go_simp; (repeat apply Aq); refine AA F [0, 1, 2, 3] [4, 5, 6, 7, 8, 9, 10, 11, 12, 13, 14, 15, 16, 17, 18] (by rfl) ?_; go_simp; apply lK 4; go_simp; apply lK 5; go_simp; refine Ap ?_; go_simp; (repeat apply Aq); refine AA F [0, 1, 2, 3] [4, 5, 6, 7, 8, 9, 10, 11, 12, 13] (by rfl) ?_; go_simp; apply lK 5; go_simp; refine Ap ?_; go_simp; (repeat apply Aq); refine Af (by go_simp) ?_; apply As; go_simp; apply Ar F; go_simp; refine ⟨s.size - (k + 1), by omega, k + 1, ?_, by omega, by omega, hgo⟩; go_simp
  have hbad := Vj hkt (Zg hc hl hd); rw [hbad]; by_cases hk0 : k = 0
  ·subst hk0
   by_cases d1 : (97 : Int) ≤ (c.toNat : Int) <;> by_cases d2 : (c.toNat : Int) ≤ 122 <;> by_cases d3 : (65 : Int) ≤ (c.toNat : Int) <;> by_cases d4 : (c.toNat : Int) ≤ 90 <;> by_cases d5 : (c.toNat : Int) = 95 <;> by_cases d6 : (c.toNat : Int) < 48 <;> by_cases d7 : (57 : Int) < (c.toNat : Int) <;> (try (exfalso; omega))
   all_goals
    apply Ar F; go_simp; (repeat apply Aq); refine At (by go_simp) ?_; apply As; go_simp; (repeat apply Aq); apply Ab; apply Ar F; go_simp; apply Ar F; go_simp; (repeat apply Aq); refine AA F [0, 1, 2, 3] [4, 5, 6, 7, 8, 9, 10, 11, 12, 13, 14, 15, 16, 17, 18] (by rfl) ?_; go_simp; apply lK 4; go_simp; apply lK 5; go_simp; refine Ap ?_; go_simp; (repeat apply Aq); refine AA F [0, 1, 2, 3] [4, 5, 6, 7, 8, 9, 10, 11, 12, 13] (by rfl) ?_; go_simp; apply lK 5; go_simp; refine Ap ?_; go_simp; (repeat apply Aq); refine At (by go_simp) ?_; apply Ar F; go_simp; apply Au; go_simp
  have hk0I : ¬ (k : Int) = 0 := by omega
  by_cases d1 : (97 : Int) ≤ (c.toNat : Int) <;> by_cases d2 : (c.toNat : Int) ≤ 122 <;> by_cases d3 : (65 : Int) ≤ (c.toNat : Int) <;> by_cases d4 : (c.toNat : Int) ≤ 90 <;> by_cases d5 : (c.toNat : Int) = 95 <;> by_cases d6 : (c.toNat : Int) < 48 <;> by_cases d7 : (57 : Int) < (c.toNat : Int) <;> (try (exfalso; omega))
  all_goals
   apply Ar F; go_simp; (repeat apply Aq); refine At (by go_simp) ?_; apply As; go_simp; (repeat apply Aq); apply Ab; apply Ar F; go_simp; apply Ar F; go_simp; (repeat apply Aq); refine AA F [0, 1, 2, 3] [4, 5, 6, 7, 8, 9, 10, 11, 12, 13, 14, 15, 16, 17, 18] (by rfl) ?_; go_simp; apply lK 4; go_simp; apply lK 5; go_simp; refine Ap ?_; go_simp; (repeat apply Aq); refine AA F [0, 1, 2, 3] [4, 5, 6, 7, 8, 9, 10, 11, 12, 13] (by rfl) ?_; go_simp; apply lK 5; go_simp; refine Ap ?_; go_simp; (repeat apply Aq); refine At (by go_simp) ?_; apply Ar F; go_simp; apply Au; go_simp
 have hkI : ¬ (k : Int) < (s.size : Int) := by omega
 rw [Xe (fun i h => hg i h (by omega))]; apply Ar F; go_simp; (repeat apply Aq); refine Af (by go_simp) ?_; apply Ae; go_simp; apply Ar F; go_simp; apply Au; go_simp
theorem Rq (gk : GK G) (s : ByteArray) (hs : s.size ≤ 140737488351232) : ACalls Tryz.prog G 97 none [sI s] (.ret (bI (B7 s)) []) := by
 have cn := MN gk s hs; unfold B7; generalize Bf s = nb at cn; refine ACalls.enter Tryz.func97 rfl rfl gk Tryz.ntmps97 fun X F => ?_
 repeat' first
  | refine AW.seq ?_
  | refine AW.block ?_
  | (refine AO F ?_; go_simp)
  | (refine AG ?_; go_simp)
  | (refine AW.skip ?_; go_simp)
  | (refine AW.exit ?_; go_simp)
  | (refine AW.ret ?_; go_simp)
  | refine ⟨fun h => ?_, fun h => ?_⟩
  | (refine ⟨_, cn, ?_⟩; go_simp)
  | intro h
 all_goals first
  | rfl
  | simp_all [inB, Ca, eq_comm]
theorem Q7 {l : List ByteArray} {s : ByteArray} : inB l s = true ↔ s ∈ l := by
 unfold inB; rw [List.any_eq_true]; constructor
 ·rintro ⟨x, hx, h⟩
  rw [decide_eq_true_eq] at h; exact h ▸ hx
 intro h; exact ⟨s, h, by simp⟩
def Iv : List ByteArray → ByteArray → Nat → Int
 | [], _, _ => -1
 | x :: r, s, k => if s = x then (k : Int) else Iv r s (k + 1)
theorem Ra : ∀ (l : List ByteArray) (s : ByteArray) (k : Nat), decide (0 ≤ Iv l s k) = inB l s
 | [], _, _ => rfl
 | x :: r, s, k => by
  unfold Iv; by_cases h : s = x
  ·rw [if_pos h]
   have : inB (x :: r) s = true := Q7.2 (by rw [h]; exact List.mem_cons_self); rw [this]; exact decide_eq_true (by omega)
  rw [if_neg h, Ra r s (k + 1)]; unfold inB; rw [List.any_cons, decide_eq_false (fun e => h e.symm), Bool.false_or]
theorem Ve (gk : GK G) (l : List ByteArray) (s : ByteArray) : ACalls Tryz.prog G 126 none [.sl (l.map fun x => [sI x]) false, sI s] (.ret (iI (Iv l s 0)) []) := by
 by_cases hlen : l.length ≤ 140737488351232
 case neg => exact ⟨⟨_, Tryz.func126, rfl, rfl⟩, fun W S p us hG hSb hrc hrep => absurd (by have := Gu hrep; rwa [List.length_map] at this) hlen⟩
 obtain ⟨z, hz⟩ : ∃ z, Iv l s 0 = z := ⟨_, rfl⟩
 rw [hz]; refine ACalls.enter Tryz.func126 rfl rfl gk Tryz.ntmps126 fun X F => ?_
 apply Ar F; go_simp; apply Ar F; go_simp; (repeat apply Aq); apply Ab; (repeat apply Aq); refine Cb [0, 1, 6, 7, 8] [1000] (by decide) (fun g t => ∃ k : Nat, t = mkS [(0, .im (.sl (l.map fun x => [sI x]) false)), (1, .im (sI s)), (6, .im (.sl (l.map fun x => [sI x]) false)), (7, .im (iI l.length)), (8, .im (iI k))] [(1000, .none)] ∧ g = l.length - k ∧ k ≤ l.length ∧ Iv (l.drop k) s k = z) (l.length) ?_ ?_
 ·refine ⟨0, ?_, by omega, by omega, hz⟩
  go_simp
 rintro g t ⟨k, rfl, rfl, hk, hg⟩; by_cases hkt : k < l.length
 ·have hkI : (k : Int) < (l.length : Int) := by omega
  have hrk := rng ((k : Int) + 1) (by omega); rw [List.drop_eq_getElem_cons hkt] at hg; unfold Iv at hg; by_cases he : s = l[k]
  ·rw [if_pos he] at hg
   subst hg; apply Ar F; go_simp; (repeat apply Aq); refine At (by go_simp) ?_; apply As; go_simp; (repeat apply Aq); apply Ab; apply Ar F; go_simp; apply Ar F; go_simp; (repeat apply Aq); refine At (by go_simp) ?_; apply Ar F; go_simp; apply Au; go_simp
  rw [if_neg he] at hg; apply Ar F; go_simp; (repeat apply Aq); refine At (by go_simp) ?_; apply As; go_simp; (repeat apply Aq); apply Ab; apply Ar F; go_simp; apply Ar F; go_simp; (repeat apply Aq); refine Af (by go_simp) ?_; apply As; go_simp; apply Ar F; go_simp; refine ⟨l.length - (k + 1), by omega, k + 1, ?_, rfl, by omega, hg⟩; go_simp
 have hkI : ¬ (k : Int) < (l.length : Int) := by omega
 rw [List.drop_eq_nil_of_le (by omega)] at hg; unfold Iv at hg; subst hg; apply Ar F; go_simp; (repeat apply Aq); refine Af (by go_simp) ?_; apply Ae; go_simp; apply Ar F; go_simp; apply Au; go_simp
theorem Qi (gk : GK G) (l : List ByteArray) (s : ByteArray) : ACalls Tryz.prog G 95 none [.sl (l.map fun x => [sI x]) false, sI s] (.ret (bI (inB l s)) []) := by
 have ci := Ve gk l s; rw [← Ra l s 0]; generalize Iv l s 0 = z at *; refine ACalls.enter Tryz.func95 rfl rfl gk Tryz.ntmps95 fun X F => ?_
 apply Ar F; go_simp; apply Ar F; go_simp; refine ⟨_, ci, ?_⟩; go_simp; apply Au; go_simp
theorem Pz (gk : GK G) (l : List ByteArray) (s : ByteArray) : ACalls Tryz.prog G 64 none [sI s, .sl (l.map fun x => [sI x]) false] (.ret (bI (inB l s)) []) := by
 have ci := Qi gk l s; refine ACalls.enter Tryz.func64 rfl rfl gk Tryz.ntmps64 fun X F => ?_
 apply Ar F; go_simp; apply Ar F; go_simp; refine ⟨_, ci, ?_⟩; go_simp; apply Au; go_simp
open Go Go.RowKit Go.Proofs Th
set_option maxRecDepth 8000
def later (P : Program) (G : World → CS → Prop) (n : Nat) (ops : Array Oper) (k : Nat) (K : ASt → Prop) (Qp : Value → ASt → Prop) (s : ASt) : Prop := B0 P G n ops (ops.toList.drop k) s K Qp
theorem Hp {P : Program} {G : World → CS → Prop} {n : Nat} {ops : Array Oper} {K : ASt → Prop} {Qp : Value → ASt → Prop} (l2 : List Oper) : ∀ (l1 : List Oper) (s : ASt), B0 P G n ops (l1 ++ l2) s K Qp = B0 P G n ops l1 s (fun s' => B0 P G n ops l2 s' K Qp) Qp
 | [], s => rfl
 | o :: r, s => by
  have ih : (fun s' => B0 P G n ops (r ++ l2) s' K Qp) = fun s' => B0 P G n ops r s' (fun s' => B0 P G n ops l2 s' K Qp) Qp := funext fun s' => Hp l2 r s'
  simp only [List.cons_append, B0, ih]
theorem GB {P : Program} {X : Ctx} {G : World → CS → Prop} {n id : Nat} {ops : Array Oper} {Q : AExit → ASt → Prop} {s : ASt} (k : Nat) (F : Fit X G n) (h : B0 P G n ops (ops.toList.take k) s (later P G n ops k (fun s' => Q .normal s') (fun x s' => Q (.panic x) s')) (fun x s' => Q (.panic x) s')) : AW P X (.region id ops false) Q s :=
 AO F (by
  have := (Hp (P := P) (G := G) (n := n) (ops := ops) (K := fun s' => Q .normal s') (Qp := fun x s' => Q (.panic x) s') (ops.toList.drop k) (ops.toList.take k) s).symm ▸ h; rwa [List.take_append_drop] at this)
theorem H2 {P : Program} {G : World → CS → Prop} {n : Nat} {ops : Array Oper} {k : Nat} {K : ASt → Prop} {Qp : Value → ASt → Prop} {s : ASt} (h : B0 P G n ops (ops.toList.drop k) s K Qp) : later P G n ops k K Qp s := h
theorem HP {P : Program} {G : World → CS → Prop} {n : Nat} {ops : Array Oper} {k : Nat} {K : ASt → Prop} {Qp : Value → ASt → Prop} {s : ASt} (m : Nat) (h : B0 P G n ops ((ops.toList.drop k).take (m - k)) s (later P G n ops m K Qp) Qp) (hm : k ≤ m := by decide) : later P G n ops k K Qp s := by
 have h2 : (ops.toList.drop k).drop (m - k) = ops.toList.drop m := by rw [List.drop_drop]; congr 1; omega
 unfold later at h ⊢; rw [← List.take_append_drop (m - k) (ops.toList.drop k), Hp, h2]; exact h
attribute [local go_sem] LP List.map_append List.map_cons List.map_nil List.length_map
theorem WE (L : List UInt8) (one : Nat → Tf × Nat × Nat) (f : Nat) : ∀ (n m o a x : Nat), n ≤ m → qGo L one f n o a = (x, 0) → qGo L one f m o a = (x, 0) := by
 intro n; induction n with
 | zero => intro m o a x _ h; simp only [qGo] at h; cases h
 | succ n ih =>
  intro m o a x hm h; obtain ⟨m, rfl⟩ : ∃ k, m = k + 1 := ⟨m - 1, by omega⟩
  cases o with
  | zero =>
   simp only [qGo] at h ⊢; cases hc : L[a]? with
   | none => rw [hc] at h; exact h
   | some c =>
    rw [hc] at h; dsimp only at h ⊢; split at h
    ·rename_i h1; rw [if_pos h1]; exact h
    rename_i h1
    rw [if_neg h1]; split at h
    ·rename_i h2; rw [if_pos h2]; exact ih _ _ _ _ (by omega) h
    rename_i h2
    rw [if_neg h2]; split at h
    ·rename_i h3; rw [if_pos h3]; exact ih _ _ _ _ (by omega) h
    rename_i h3; rw [if_neg h3]; exact ih _ _ _ _ (by omega) h
  | succ o =>
   simp only [qGo] at h ⊢; split at h
   ·rename_i h1; rw [if_pos h1]; exact h
   rename_i h1
   rw [if_neg h1]; split at h
   ·rename_i h2; rw [if_pos h2]; exact h
   rename_i h2; rw [if_neg h2]; exact ih _ _ _ _ (by omega) h
theorem Q1 (s : ByteArray) (hs : s.size ≤ 50000) (a n : Nat) (ha : a ≤ s.size) (hn : n ≤ s.size + 2) (h : qGo (toL s) (AF (toL s) 47) 0 n 1 a = (s.size, 0)) : ACalls Tryz.prog GX 103 (some [sI s, iI a]) [iI 0] (.ret (.tup [iI 0, iI 0]) [sI s, iI (BN (AF (toL s) 47) (s.size + 2) 1 a)]) :=
 KE (cs := [.string s, .int .i64 a]) (cs' := [.string s, .int .i64 (BN (AF (toL s) 47) (s.size + 2) 1 a)]) (us := [.int .i64 0]) (v := .tuple #[.int .i64 0, .int .i64 0]) ⟨_, Tryz.func103, rfl, rfl⟩ (by simp [Value.oneCell'])
  (fun W S => Gs (us := [_, _]) (RepL.cons (.v _) (RepL.cons (.v _) (RepL.nil _ _)))) fun W S p hG hB => (SC p s (by omega) 0 (s.size + 2) a ha (by omega) (by omega) W hB hG.now.2.2).mono fun e W' ⟨j, x, ee, he, hsc, hj, hcase⟩ => by
   have hq : qGo s.data.toList (AF s.data.toList 47) 0 (s.size + 2) (0 + 1) a = (s.size, 0) := WE _ _ _ _ _ _ _ _ hn h; rcases hcase with ⟨rfl, rfl, n', _, _, _, _, hc⟩ | ⟨_, h2⟩ | ⟨h1, _, q, h2, _, h3⟩
   ·have hc2 : BN (AF (toL s) 47) (s.size + 2) 1 a = j := hc _ (Nat.le_refl _)
    rw [hc2]; exact ⟨he, hsc.b, hsc.u⟩
   ·rw [hq] at h2; exact absurd (show (0 : Nat) = 20 from congrArg Prod.snd h2) (by decide)
   rw [hq] at h2; rw [← h2] at h3; exact absurd h3 h1
def Wp (d : Nat) : List ByteArray → FV
 | [] => .im (.sl [] true)
 | x :: r => .own d (x :: r).length
def VV : List ByteArray → AObj
 | [] => .none
 | x :: r => .row 9 1 ((x :: r).map fun x => [sI x])
def YS (d : Nat) : List Nat → FV
 | [] => .im (.sl [] true)
 | x :: r => .own d (x :: r).length
def Zi : List Nat → AObj
 | [] => .none
 | x :: r => .row 3 1 ((x :: r).map fun (x : Nat) => [iI x])
attribute [local go_sem] Wp VV YS Zi
theorem Gw (s : ByteArray) (a c : Nat) : ((toL s).take c).drop a = toL (s.extract a c) := by
 unfold toL; rw [Ls, List.drop_take]
theorem Hx : ∀ {a b : List ByteArray}, a.map toL = b.map toL → a = b
 | [], [], _ => rfl
 | [], _ :: _, h => by cases h
 | _ :: _, [], h => by cases h
 | x :: r, y :: q, h => by
  rw [List.map_cons, List.map_cons] at h; injection h with h1 h2; rw [GH h1, Hx h2]
theorem VU (s : ByteArray) (hs : s.size ≤ 50000) (hok : ¬ okQ (toL s) = true) : ACalls Tryz.prog GX 153 none [sI s] (.ret (.tup [.sl [] false, .sl [] false, .sl [] false, iI 20]) []) := by
 have gk := gkX; have cs := L6 s hs; rw [PN, C7] at hok; obtain ⟨⟨l, x, ee⟩, hq⟩ : ∃ q, Bp (toL s) = q := ⟨_, rfl⟩
 have hx := fun h => PA (toL s) h
 rw [hq] at cs hok hx; dsimp only at cs hx; clear hq; refine ACalls.enter Tryz.func153 rfl rfl gk Tryz.ntmps153 fun X F => ?_
 apply Ar F; go_simp; apply Ar F; go_simp; refine ⟨_, cs, ?_⟩; go_simp; refine AW.prune [0, 2, 3, 4, 5, 6, 8] [1000] (by decide) ?_; go_simp; by_cases b1 : ee = 0
 ·subst b1
  obtain rfl := hx rfl; clear hx; rcases l with _ | ⟨t, _ | ⟨t2, l⟩⟩
  ·(repeat apply Aq)
   refine GB 8 F ?_; go_simp; refine HP 16 ?_; go_simp; refine H2 ?_; go_simp; (repeat apply Aq); refine At (by go_simp) ?_; apply Ar F; go_simp; apply Au; go_simp
  ·by_cases b2 : t.kind = 5
   ·by_cases b3 : t.text.size = s.size
    ·exact absurd ⟨t, rfl, b2, b3⟩ hok
    have b3I : ¬ (t.text.size : Int) = (s.size : Int) := by omega
    (repeat apply Aq); refine GB 8 F ?_; go_simp; refine HP 16 ?_; go_simp; refine H2 ?_; go_simp; (repeat apply Aq); refine At (by go_simp) ?_; apply Ar F; go_simp; apply Au; go_simp
   have b2I : ¬ (t.kind : Int) = 5 := by omega
   (repeat apply Aq); refine GB 8 F ?_; go_simp; refine HP 16 ?_; go_simp; refine H2 ?_; go_simp; (repeat apply Aq); refine At (by go_simp) ?_; apply Ar F; go_simp; apply Au; go_simp
  have b4 : ¬ (l.length : Int) + 1 + 1 = 1 := by omega
  (repeat apply Aq); refine GB 8 F ?_; go_simp; refine HP 16 ?_; go_simp; refine H2 ?_; go_simp; (repeat apply Aq); refine At (by go_simp) ?_; apply Ar F; go_simp; apply Au; go_simp
 have b1I : ¬ (ee : Int) = 0 := by omega
 (repeat apply Aq); refine GB 8 F ?_; go_simp; refine HP 16 ?_; go_simp; refine H2 ?_; go_simp; (repeat apply Aq); refine At (by go_simp) ?_; apply Ar F; go_simp; apply Au; go_simp
theorem Vc (s : ByteArray) (hs : s.size ≤ 50000) (hok : okQ (toL s) = true) (T2 F2 : List ByteArray) (Pl2 : List Nat) (h0 : Bn (toL s) (AF (toL s) 47) (s.size + 1) 1 1 ⟨[], [], []⟩ = ⟨T2.map toL, F2.map toL, Pl2⟩) : ACalls Tryz.prog GX 153 none [sI s] (.ret (.tup [.sl (T2.map fun x => [sI x]) false, .sl (F2.map fun x => [sI x]) false, .sl (Pl2.map fun (n : Nat) => [iI n]) false, iI 0]) []) := by
 have gk := gkX; have cs := L6 s hs; obtain ⟨t, ht, hk, hts⟩ := (PN (toL s)).1 hok; rw [C7] at hts; rw [ht] at cs; dsimp only [List.map_cons, List.map_nil] at cs; obtain ⟨hq1, hq2, hpath⟩ := KO hok; have hone : ∀ a, a ≤ (toL s).length → OneOk (toL s) a (AF (toL s) 47 a) := fun a ha => CR _ _ _ ha
 have hsz : (toL s).length = s.size := C7 s; have hsI := rng ((s.size : Int) - 1) (by omega); refine ACalls.enter Tryz.func153 rfl rfl gk Tryz.ntmps153 fun X F => ?_
 apply Ar F; go_simp; apply Ar F; go_simp; refine ⟨_, cs, ?_⟩; go_simp; refine AW.prune [0, 2, 3, 4, 5, 6, 8] [1000] (by decide) ?_; go_simp; (repeat apply Aq); refine GB 8 F ?_; go_simp; refine HP 16 ?_; go_simp; refine H2 ?_; go_simp; (repeat apply Aq); refine Af (by go_simp) ?_; apply As; go_simp; apply Ar F; go_simp; apply Ar F; go_simp; (repeat apply Aq); apply Ab; (repeat apply Aq); refine Cb [0, 2, 3, 4, 5, 9, 10] [1000, 43, 61, 85, 89] (by decide) (fun g st => ∃ (T F : List ByteArray) (Pl : List Nat) (fr at_ : Nat), st = mkS [(0, .im (sI s)), (2, Wp 61 T), (3, Wp 85 F), (4, YS 89 Pl), (5, .im (iI 0)), (9, .im (iI fr)), (10, .ptr 43 0)] [(1000, .none), (43, .box [.im (sI s), .im (iI at_)]), (61, VV T), (85, VV F), (89, Zi Pl)] ∧ PathQ (toL s) (AF (toL s) 47) at_ ∧ fr ≤ at_ ∧ F.length = T.length ∧ Pl.length = T.length ∧ T.length ≤ at_ ∧ s.size + 1 ≤ g + at_ ∧ Bn (toL s) (AF (toL s) 47) g fr at_ ⟨T.map toL, F.map toL, Pl⟩ = ⟨T2.map toL, F2.map toL, Pl2⟩) (s.size + 1) ?_ ?_
 ·refine ⟨[], [], [], 1, 1, ?_, hpath, Nat.le_refl _, rfl, rfl, Nat.zero_le _, by omega, h0⟩
  go_simp
 rintro g st ⟨T, F1, Pl, fr, at_, rfl, hp, hfr, hF, hP, hT, hg, h⟩; have hend := hp.end_ hone; rw [hsz] at hend; obtain ⟨hend, hq34⟩ := hend; rcases g with _ | g
 ·omega
 rw [Bn, hsz] at h; have hk2 : ∀ n, n ≤ at_ → n + 3 ≤ 1000000000 := fun n hn => by omega
 rcases T with _ | ⟨ta, T⟩
 ·obtain rfl : F1 = [] := List.eq_nil_of_length_eq_zero hF
  obtain rfl : Pl = [] := List.eq_nil_of_length_eq_zero hP; try (have hk3 : T.length ≤ 999999998 := by have := hk2 _ hT; simp only [List.length_cons] at this hT; omega)
  try (have hk4 : F1.length ≤ 999999998 := by simp only [List.length_cons] at hF hT; omega)
  try (have hk5 : Pl.length ≤ 999999998 := by simp only [List.length_cons] at hP hT; omega)
  by_cases ha : at_ + 1 < s.size
  ·rw [if_neg (by omega)] at h
   have haI : (at_ : Int) < (s.size : Int) - 1 := by omega
   obtain ⟨c, hc⟩ : ∃ c, (toL s)[at_]? = some c := ⟨_, List.getElem?_eq_getElem (by rw [hsz]; omega)⟩
   have hcs : s.data.toList[at_]? = some c := hc; have h34 : c ≠ 34 := fun e => by have := hq34.2 (by rw [hc, e]); omega
   have hr1 := rng ((at_ : Int) + 1) (by omega); have hr2 := rng ((at_ : Int) + 2) (by omega); have hp1 : (0 : Int) ≤ (at_ : Int) + 1 := by omega
   rw [hc] at h;apply Ar F;go_simp;(repeat apply Aq);refine At (by go_simp) ?_;apply As;go_simp;(iterate 2 (repeat apply Aq);apply Ab);by_cases c92 : c = 92
   ·subst c92
    rw [if_neg (by simp)] at h; obtain ⟨c2, hc2⟩ : ∃ c2, (toL s)[at_ + 1]? = some c2 := ⟨_, List.getElem?_eq_getElem (by rw [hsz]; omega)⟩
    have hcs2 : s.data.toList[at_ + 1]? = some c2 := hc2; have hcd2 : ∀ hh, s.data[at_ + 1]'hh = c2 := fun hh => by have := hcs2; rw [Array.getElem?_toList, Array.getElem?_eq_getElem hh] at this; exact Option.some.inj this
    rw [hc2] at h; apply Ar F; go_simp; (repeat apply Aq); refine Af (by go_simp) ?_; by_cases c40 : c2 = 40
    ·subst c40
     rw [if_neg (by simp)] at h; obtain ⟨sp, slt, sle⟩ := hp.sub hone hc hc2; rw [hsz] at sp slt sle; have hcl : ∃ n, n ≤ s.size + 2 ∧ qGo (toL s) (AF (toL s) 47) 0 n 1 (at_ + 2) = (s.size, 0) := by
      obtain ⟨n, hn, hq⟩ := hp; rw [hsz] at hn hq; cases n with
      | zero => exact absurd (show (20 : Nat) = 0 from congrArg Prod.snd hq) (by decide)
      | succ n =>
       simp only [qGo] at hq; rw [hc] at hq; dsimp only at hq; rw [if_neg (by decide), if_neg (by decide), if_pos hc2] at hq; exact ⟨n, by omega, hq⟩
     obtain ⟨nn, hnn, hqq⟩ := hcl; have ci := Q1 s hs (at_ + 2) nn (by omega) hnn hqq; clear hqq; generalize BN (AF (toL s) 47) (s.size + 2) 1 (at_ + 2) = j at *; rw [Gw, Gw] at h; dsimp only at h; rw [show [toL (s.extract fr at_)] = [s.extract fr at_].map toL from rfl, show [toL (s.extract (at_ + 2) (j - 1))] = [s.extract (at_ + 2) (j - 1)].map toL from rfl, ← List.map_append, ← List.map_append] at h; have ci' : ACalls Tryz.prog GX 103 (some [sI s, iI ((at_ : Int) + 2)]) [iI 0] (.ret (.tup [iI 0, iI 0]) [sI s, iI j]) := by
      rw [show ((at_ : Int) + 2) = ((at_ + 2 : Nat) : Int) from by omega]; exact ci
     have e1 : (fr : Int) ≤ (at_ : Int) := by omega
     have e2 : at_ ≤ s.size := by omega
     have e3 := rng ((j : Int) - 1) (by omega); have e4 : (at_ : Int) + 2 ≤ (j : Int) - 1 := by omega
     have e5 : (j : Int) - 1 ≤ (s.size : Int) := by omega
     have e6 : ((at_ : Int) + 2).toNat = at_ + 2 := by omega
     have e7 : ((j : Int) - 1).toNat = j - 1 := by omega
     have e8 : (0 : Int) ≤ (at_ : Int) + 2 := by omega
     apply Ar F;go_simp;(repeat apply Aq);refine Af (by go_simp) ?_;(iterate 4 apply Ar F;go_simp);refine ⟨_, ci', ?_⟩;go_simp;apply Ar F;go_simp;apply Ar F;go_simp;refine ⟨g, by omega, _, _, _, j, j, ?_, sp, by omega, by first | exact hF | rfl | (simp only [List.length_append, List.length_cons, List.length_nil] at hF ⊢; omega), by first | exact hP | rfl | (simp only [List.length_append, List.length_cons, List.length_nil] at hP ⊢; omega), by (try simp only [List.length_append, List.length_cons, List.length_nil] at hT ⊢); omega, by omega, h⟩;go_simp
    rw [if_pos (by simpa using c40)] at h; have m40 : ¬ c2.toNat = 40 := fun e => c40 (UInt8.toNat_inj.1 e)
    have m40I : ¬ (c2.toNat : Int) = 40 := by omega
    apply Ar F; go_simp; (repeat apply Aq); refine At (by go_simp) ?_; apply Ar F; go_simp; refine ⟨g, by omega, _, _, _, fr, at_ + 2, ?_, hp.esc hc (by rw [hc2]; simpa using c40), by omega, by first | exact hF | rfl | (simp only [List.length_append, List.length_cons, List.length_nil] at hF ⊢; omega), by first | exact hP | rfl | (simp only [List.length_append, List.length_cons, List.length_nil] at hP ⊢; omega), by (try simp only [List.length_nil] at hT ⊢); omega, by omega, h⟩; go_simp
   rw [if_pos (by simpa using c92)] at h; have m92 : ¬ c.toNat = 92 := fun e => c92 (UInt8.toNat_inj.1 e)
   have m92I : ¬ (c.toNat : Int) = 92 := by omega
   apply Ar F; go_simp; (repeat apply Aq); refine At (by go_simp) ?_; apply Ar F; go_simp; refine ⟨g, by omega, _, _, _, fr, at_ + 1, ?_, hp.char hc h34 c92, by omega, by first | exact hF | rfl | (simp only [List.length_append, List.length_cons, List.length_nil] at hF ⊢; omega), by first | exact hP | rfl | (simp only [List.length_append, List.length_cons, List.length_nil] at hP ⊢; omega), by (try simp only [List.length_nil] at hT ⊢); omega, by omega, h⟩; go_simp
  rw [if_pos (by omega)] at h; have haI : ¬ (at_ : Int) < (s.size : Int) - 1 := by omega
  rw [Gw, show [toL (s.extract fr (s.size - 1))] = [s.extract fr (s.size - 1)].map toL from rfl, ← List.map_append] at h; injection h with h1 h2 h3; obtain rfl := Hx h1; obtain rfl := Hx h2; subst h3; clear h1 h2; have e1 : (fr : Int) ≤ (s.size : Int) - 1 := by omega
  have e2 : (s.size : Int) - 1 ≤ (s.size : Int) := by omega
  have e3 : ((s.size : Int) - 1).toNat = s.size - 1 := by omega
  apply Ar F; go_simp; (repeat apply Aq); refine Af (by go_simp) ?_; apply Ae; go_simp; apply Ar F; go_simp; apply Au; go_simp
 obtain ⟨fa, F1, rfl⟩ : ∃ x y, F1 = x :: y := List.exists_cons_of_length_pos (by rw [hF]; exact Nat.succ_pos _)
 obtain ⟨pa, Pl, rfl⟩ : ∃ x y, Pl = x :: y := List.exists_cons_of_length_pos (by rw [hP]; exact Nat.succ_pos _)
 have hF1 : F1.length = T.length := by simpa using hF
 have hP1 : Pl.length = T.length := by simpa using hP
 try (have hk3 : T.length ≤ 999999998 := by have := hk2 _ hT; simp only [List.length_cons] at this hT; omega)
 try (have hk4 : F1.length ≤ 999999998 := by simp only [List.length_cons] at hF hT; omega)
 try (have hk5 : Pl.length ≤ 999999998 := by simp only [List.length_cons] at hP hT; omega)
 by_cases ha : at_ + 1 < s.size
 ·rw [if_neg (by omega)] at h
  have haI : (at_ : Int) < (s.size : Int) - 1 := by omega
  obtain ⟨c, hc⟩ : ∃ c, (toL s)[at_]? = some c := ⟨_, List.getElem?_eq_getElem (by rw [hsz]; omega)⟩
  have hcs : s.data.toList[at_]? = some c := hc; have h34 : c ≠ 34 := fun e => by have := hq34.2 (by rw [hc, e]); omega
  have hr1 := rng ((at_ : Int) + 1) (by omega); have hr2 := rng ((at_ : Int) + 2) (by omega); have hp1 : (0 : Int) ≤ (at_ : Int) + 1 := by omega
  rw [hc] at h;apply Ar F;go_simp;(repeat apply Aq);refine At (by go_simp) ?_;apply As;go_simp;(iterate 2 (repeat apply Aq);apply Ab);by_cases c92 : c = 92
  ·subst c92
   rw [if_neg (by simp)] at h; obtain ⟨c2, hc2⟩ : ∃ c2, (toL s)[at_ + 1]? = some c2 := ⟨_, List.getElem?_eq_getElem (by rw [hsz]; omega)⟩
   have hcs2 : s.data.toList[at_ + 1]? = some c2 := hc2; have hcd2 : ∀ hh, s.data[at_ + 1]'hh = c2 := fun hh => by have := hcs2; rw [Array.getElem?_toList, Array.getElem?_eq_getElem hh] at this; exact Option.some.inj this
   rw [hc2] at h; apply Ar F; go_simp; (repeat apply Aq); refine Af (by go_simp) ?_; by_cases c40 : c2 = 40
   ·subst c40
    rw [if_neg (by simp)] at h; obtain ⟨sp, slt, sle⟩ := hp.sub hone hc hc2; rw [hsz] at sp slt sle; have hcl : ∃ n, n ≤ s.size + 2 ∧ qGo (toL s) (AF (toL s) 47) 0 n 1 (at_ + 2) = (s.size, 0) := by
     obtain ⟨n, hn, hq⟩ := hp; rw [hsz] at hn hq; cases n with
     | zero => exact absurd (show (20 : Nat) = 0 from congrArg Prod.snd hq) (by decide)
     | succ n =>
      simp only [qGo] at hq; rw [hc] at hq; dsimp only at hq; rw [if_neg (by decide), if_neg (by decide), if_pos hc2] at hq; exact ⟨n, by omega, hq⟩
    obtain ⟨nn, hnn, hqq⟩ := hcl; have ci := Q1 s hs (at_ + 2) nn (by omega) hnn hqq; clear hqq; generalize BN (AF (toL s) 47) (s.size + 2) 1 (at_ + 2) = j at *; rw [Gw, Gw] at h; dsimp only at h; rw [show [toL (s.extract fr at_)] = [s.extract fr at_].map toL from rfl, show [toL (s.extract (at_ + 2) (j - 1))] = [s.extract (at_ + 2) (j - 1)].map toL from rfl, ← List.map_append, ← List.map_append] at h; have ci' : ACalls Tryz.prog GX 103 (some [sI s, iI ((at_ : Int) + 2)]) [iI 0] (.ret (.tup [iI 0, iI 0]) [sI s, iI j]) := by
     rw [show ((at_ : Int) + 2) = ((at_ + 2 : Nat) : Int) from by omega]; exact ci
    have e1 : (fr : Int) ≤ (at_ : Int) := by omega
    have e2 : at_ ≤ s.size := by omega
    have e3 := rng ((j : Int) - 1) (by omega); have e4 : (at_ : Int) + 2 ≤ (j : Int) - 1 := by omega
    have e5 : (j : Int) - 1 ≤ (s.size : Int) := by omega
    have e6 : ((at_ : Int) + 2).toNat = at_ + 2 := by omega
    have e7 : ((j : Int) - 1).toNat = j - 1 := by omega
    have e8 : (0 : Int) ≤ (at_ : Int) + 2 := by omega
    apply Ar F;go_simp;(repeat apply Aq);refine Af (by go_simp) ?_;(iterate 4 apply Ar F;go_simp);refine ⟨_, ci', ?_⟩;go_simp;apply Ar F;go_simp;apply Ar F;go_simp;refine ⟨g, by omega, _, _, _, j, j, ?_, sp, by omega, by first | exact hF | rfl | (simp only [List.length_append, List.length_cons, List.length_nil] at hF ⊢; omega), by first | exact hP | rfl | (simp only [List.length_append, List.length_cons, List.length_nil] at hP ⊢; omega), by (try simp only [List.length_append, List.length_cons, List.length_nil] at hT ⊢); omega, by omega, h⟩;go_simp
   rw [if_pos (by simpa using c40)] at h; have m40 : ¬ c2.toNat = 40 := fun e => c40 (UInt8.toNat_inj.1 e)
   have m40I : ¬ (c2.toNat : Int) = 40 := by omega
   apply Ar F; go_simp; (repeat apply Aq); refine At (by go_simp) ?_; apply Ar F; go_simp; refine ⟨g, by omega, _, _, _, fr, at_ + 2, ?_, hp.esc hc (by rw [hc2]; simpa using c40), by omega, by first | exact hF | rfl | (simp only [List.length_append, List.length_cons, List.length_nil] at hF ⊢; omega), by first | exact hP | rfl | (simp only [List.length_append, List.length_cons, List.length_nil] at hP ⊢; omega), by (try simp only [List.length_cons] at hT ⊢); omega, by omega, h⟩; go_simp
  rw [if_pos (by simpa using c92)] at h; have m92 : ¬ c.toNat = 92 := fun e => c92 (UInt8.toNat_inj.1 e)
  have m92I : ¬ (c.toNat : Int) = 92 := by omega
  apply Ar F; go_simp; (repeat apply Aq); refine At (by go_simp) ?_; apply Ar F; go_simp; refine ⟨g, by omega, _, _, _, fr, at_ + 1, ?_, hp.char hc h34 c92, by omega, by first | exact hF | rfl | (simp only [List.length_append, List.length_cons, List.length_nil] at hF ⊢; omega), by first | exact hP | rfl | (simp only [List.length_append, List.length_cons, List.length_nil] at hP ⊢; omega), by (try simp only [List.length_cons] at hT ⊢); omega, by omega, h⟩; go_simp
 rw [if_pos (by omega)] at h; have haI : ¬ (at_ : Int) < (s.size : Int) - 1 := by omega
 rw [Gw, show [toL (s.extract fr (s.size - 1))] = [s.extract fr (s.size - 1)].map toL from rfl, ← List.map_append] at h; injection h with h1 h2 h3; obtain rfl := Hx h1; obtain rfl := Hx h2; subst h3; clear h1 h2; have e1 : (fr : Int) ≤ (s.size : Int) - 1 := by omega
 have e2 : (s.size : Int) - 1 ≤ (s.size : Int) := by omega
 have e3 : ((s.size : Int) - 1).toNat = s.size - 1 := by omega
 apply Ar F; go_simp; (repeat apply Aq); refine Af (by go_simp) ?_; apply Ae; go_simp; apply Ar F; go_simp; apply Au; go_simp
theorem Zc : Qh GX := fun s T F Pl e hs h => by
 unfold BS at h; by_cases hok : okQ (toL s) = true
 ·rw [if_pos hok] at h
  injection h with h1 h2; subst h2; exact Vc s hs hok T F Pl h1
 rw [if_neg hok] at h; injection h with h1 h2; injection h1 with h3 h4 h5; subst h2; subst h5; obtain rfl : T = [] := by cases T; rfl; cases h3
 obtain rfl : F = [] := by cases F; rfl; cases h4
 exact VU s hs hok
end Go.Proofs.YtakncilicoefdaaGreatDoor
