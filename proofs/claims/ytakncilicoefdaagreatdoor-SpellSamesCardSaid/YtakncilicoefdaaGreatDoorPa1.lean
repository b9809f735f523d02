/- Lemmas and contracts for the laws SpellSames, part 1 of 47: NumMath, Base. Conditions: those that each lemma names. -/
import Derived.Lib.TrimByte
import Derived.WalkKit
import Derived.WalkSpells
import Derived.BigQuiet
import Derived.Deep.QuietTactic
set_option maxRecDepth 100000
set_option maxHeartbeats 4000000
namespace Th
def val (ds : List Nat) : Nat := ds.foldl (fun a d => a * 10 + d) 0
theorem foldl_val (ds : List Nat) (a : Nat) : ds.foldl (fun a d => a * 10 + d) a = a * 10 ^ ds.length + val ds := by
  unfold val; induction ds generalizing a with
  | nil => simp
  | cons d ds ih =>
    simp only [List.foldl_cons, List.length_cons]; rw [ih (a * 10 + d), ih (0 * 10 + d)]; simp only [Nat.zero_mul, Nat.zero_add, Nat.pow_succ, Nat.add_mul]; rw [Nat.mul_assoc, Nat.mul_comm 10]; omega
@[simp] theorem val_nil : val [] = 0 := rfl
theorem val_cons (d : Nat) (ds : List Nat) : val (d :: ds) = d * 10 ^ ds.length + val ds := by
  show (d :: ds).foldl _ 0 = _
  rw [List.foldl_cons, foldl_val]; simp
theorem val_snoc (ds : List Nat) (d : Nat) : val (ds ++ [d]) = val ds * 10 + d := by
  unfold val; rw [List.foldl_append]; rfl
theorem val_append (a b : List Nat) : val (a ++ b) = val a * 10 ^ b.length + val b := by
  unfold val; rw [List.foldl_append, foldl_val]; rfl
def Digs (ds : List Nat) : Prop := ∀ d ∈ ds, d ≤ 9
theorem val_lt (ds : List Nat) (h : Digs ds) : val ds < 10 ^ ds.length := by
  induction ds with
  | nil => simp
  | cons d ds ih =>
    rw [val_cons, List.length_cons, Nat.pow_succ]; have h1 := ih (fun x hx => h x (List.mem_cons_of_mem _ hx)); have h2 : d ≤ 9 := h d (List.mem_cons_self ..); have h3 : d * 10 ^ ds.length ≤ 9 * 10 ^ ds.length := Nat.mul_le_mul_right _ h2; omega
theorem val_ge (d : Nat) (ds : List Nat) (h : 1 ≤ d) : 10 ^ ds.length ≤ val (d :: ds) := by
  rw [val_cons]; have : 1 * 10 ^ ds.length ≤ d * 10 ^ ds.length := Nat.mul_le_mul_right _ h; omega
def fin (neg : Bool) (m : Nat) (e : Int) : (Int × Int) × Int :=
  if 1000000000000000000 ≤ m ∨ e < -64 ∨ 64 < e then ((0, 0), 11) else ((if neg then -(m : Int) else m, e), 0)
def strip : Nat → Nat → Int → Nat × Int
  | 0, m, e => (m, e)
  | f + 1, m, e => if m % 10 = 0 then strip f (m / 10) (e + 1) else (m, e)
def norm (neg : Bool) (m : Nat) (e : Int) : (Int × Int) × Int :=
  if m = 0 then ((0, 0), 0) else fin neg (strip m m e).1 (strip m m e).2
theorem strip_of (k : Nat) : ∀ (f m : Nat) (e : Int), m % 10 ≠ 0 → k ≤ f → strip f (m * 10 ^ k) e = (m, e + k) := by
  induction k with
  | zero =>
    intro f m e hm _; cases f with
    | zero => simp [strip]
    | succ f => simp [strip, hm]
  | succ k ih =>
    intro f m e hm hf; obtain ⟨f, rfl⟩ : ∃ g, f = g + 1 := ⟨f - 1, by omega⟩
    have h1 : m * 10 ^ (k + 1) = (m * 10 ^ k) * 10 := by rw [Nat.pow_succ, Nat.mul_assoc]
    rw [h1]; simp only [strip, Nat.mul_mod_left, ↓reduceIte]; rw [Nat.mul_div_cancel _ (by omega), ih f m (e + 1) hm (by omega)]; congr 1
    omega
theorem lt_pow_ten (k : Nat) : k < 10 ^ k := by
  induction k with
  | zero => simp
  | succ k ih => rw [Nat.pow_succ]; omega
theorem norm_zero (neg : Bool) (e : Int) : norm neg 0 e = ((0, 0), 0) := rfl
theorem norm_of (neg : Bool) (m k : Nat) (e : Int) (hm : m % 10 ≠ 0) : norm neg (m * 10 ^ k) e = fin neg m (e + k) := by
  have h0 : m ≠ 0 := by intro h; subst h; simp at hm
  have hk := lt_pow_ten k; have h1 : 1 * 10 ^ k ≤ m * 10 ^ k := Nat.mul_le_mul_right _ (by omega); unfold norm; rw [if_neg (by omega), strip_of k _ m e hm (by omega)]
theorem norm_fin (neg : Bool) (m : Nat) (e : Int) (hm : m % 10 ≠ 0) : norm neg m e = fin neg m e := by
  have := norm_of neg m 0 e hm; simpa using this
theorem exists_form (m : Nat) (_h : m ≠ 0) : ∃ a k, a % 10 ≠ 0 ∧ m = a * 10 ^ k := by
  induction m using Nat.strongRecOn with
  | _ m ih =>
    by_cases hm : m % 10 = 0
    · obtain ⟨a, k, ha, hk⟩ := ih (m / 10) (by omega) (by omega)
      refine ⟨a, k + 1, ha, ?_⟩; rw [Nat.pow_succ, ← Nat.mul_assoc, ← hk]; omega
    exact ⟨m, 0, hm, by simp⟩
theorem norm_shift (neg : Bool) (m k : Nat) (e : Int) : norm neg (m * 10 ^ k) e = norm neg m (e + k) := by
  by_cases h : m = 0
  · subst h; simp [norm_zero]
  obtain ⟨a, j, ha, rfl⟩ := exists_form m h; rw [Nat.mul_assoc, ← Nat.pow_add, norm_of _ _ _ _ ha, norm_of _ _ _ _ ha]; congr 1
  omega
def right (m e : Int) : Bool := if m = 0 then e == 0 else decide (m.natAbs < 1000000000000000000) && decide (m.natAbs % 10 ≠ 0) && decide (-64 ≤ e) && decide (e ≤ 64)
theorem tmod_ten (m : Int) : m.tmod 10 = 0 ↔ m.natAbs % 10 = 0 := by
  rw [← Int.dvd_iff_tmod_eq_zero]; omega
theorem right_cases (m e : Int) (hm : m ≠ 0) :
    (decide ((m.natAbs : Int) < 1000000000000000000) = false ∧ right m e = false) ∨
    (decide ((m.natAbs : Int) < 1000000000000000000) = true ∧ (m.tmod 10 != 0) = false ∧ right m e = false) ∨
    (decide ((m.natAbs : Int) < 1000000000000000000) = true ∧ (m.tmod 10 != 0) = true ∧ decide (-64 ≤ e) = false ∧ right m e = false) ∨
    (decide ((m.natAbs : Int) < 1000000000000000000) = true ∧ (m.tmod 10 != 0) = true ∧ decide (-64 ≤ e) = true ∧ right m e = decide (e ≤ 64)) := by
  have h1 : right m e = (decide (m.natAbs < 1000000000000000000) && decide (m.natAbs % 10 ≠ 0) && decide (-64 ≤ e) && decide (e ≤ 64)) := by unfold right; rw [if_neg hm]
  have h2 : decide ((m.natAbs : Int) < 1000000000000000000) = decide (m.natAbs < 1000000000000000000) := by rw [decide_eq_decide]; omega
  have h3 : (m.tmod 10 != 0) = decide (m.natAbs % 10 ≠ 0) := by
    rw [Bool.eq_iff_iff]; simp only [bne_iff_ne, ne_eq, decide_eq_true_eq, tmod_ten]
  rw [h1, h2, h3]; cases decide (m.natAbs < 1000000000000000000) <;> cases decide (m.natAbs % 10 ≠ 0) <;> cases decide (-64 ≤ e) <;> simp
def dq10 (h l : Int) : Int := (h * 18446744073709551616 + l) / 10
def dm10 (h l : Int) : Int := (h * 18446744073709551616 + l) % 10
def wide (h l : Int) : Nat := (h * 18446744073709551616 + l).toNat
theorem wide_div (h l : Int) (_h0 : 0 ≤ h) (_l0 : 0 ≤ l) : wide (h / 10) (dq10 (h % 10) l) = wide h l / 10 := by unfold wide dq10; omega
theorem wide_mod (h l : Int) (h0 : 0 ≤ h) (l0 : 0 ≤ l) : dm10 (h % 10) l = (wide h l % 10 : Nat) := by unfold wide dm10; omega
theorem dq10_bd (h l : Int) (_h0 : 0 ≤ h) (l0 : 0 ≤ l) (l1 : l < 18446744073709551616) : 0 ≤ dq10 (h % 10) l ∧ dq10 (h % 10) l < 18446744073709551616 := by unfold dq10; omega
theorem wide_lt (h l : Int) (h1 : h < 18446744073709551616) (l1 : l < 18446744073709551616) : wide h l < 340282366920938463463374607431768211456 := by unfold wide; omega
theorem pow_small (k n V : Nat) (hn : n ≠ 0) (e : n * 10 ^ k = V) (hV : V < 340282366920938463463374607431768211456) : k < 39 := by
  rcases Nat.lt_or_ge k 39 with h | h
  · exact h
  have h1 : 10 ^ 39 ≤ 10 ^ k := Nat.pow_le_pow_right (by omega) h; have h2 : 1 * 10 ^ k ≤ n * 10 ^ k := Nat.mul_le_mul_right _ (by omega); have h3 : (10 : Nat) ^ 39 = 1000000000000000000000000000000000000000 := by decide
  omega
theorem made_cases (neg : Bool) (x y f : Int) (x0 : 0 ≤ x) (y0 : 0 ≤ y) (hr : wide x y % 10 ≠ 0) :
    ((x != 0) = true ∧ norm neg (wide x y) f = ((0, 0), 11)) ∨
    ((x != 0) = false ∧ decide (1000000000000000000 ≤ y) = true ∧ norm neg (wide x y) f = ((0, 0), 11)) ∨
    ((x != 0) = false ∧ decide (1000000000000000000 ≤ y) = false ∧ decide (f < -64) = true ∧ norm neg (wide x y) f = ((0, 0), 11)) ∨
    ((x != 0) = false ∧ decide (1000000000000000000 ≤ y) = false ∧ decide (f < -64) = false ∧ decide (64 < f) = true ∧ norm neg (wide x y) f = ((0, 0), 11)) ∨
    ((x != 0) = false ∧ decide (1000000000000000000 ≤ y) = false ∧ decide (f < -64) = false ∧ decide (64 < f) = false ∧ y < 1000000000000000000 ∧ norm neg (wide x y) f = ((if neg then -y else y, f), 0)) := by
  rw [norm_fin _ _ _ hr]; unfold fin wide; by_cases hx : x = 0
  · subst hx
    have e : (0 * 18446744073709551616 + y).toNat = y.toNat := by congr 1; omega
    rw [e]; right
    by_cases hy : 1000000000000000000 ≤ y
    · left; exact ⟨rfl, by simpa using hy, by rw [if_pos (by omega)]⟩
    right
    have hy' : decide (1000000000000000000 ≤ y) = false := by simpa using hy
    by_cases h1 : f < -64
    · left; exact ⟨rfl, hy', by simpa using h1, by rw [if_pos (by omega)]⟩
    right
    by_cases h2 : 64 < f
    · left; exact ⟨rfl, hy', by simpa using h1, by simpa using h2, by rw [if_pos (by omega)]⟩
    right; exact ⟨rfl, hy', by simpa using h1, by simpa using h2, by omega, by rw [if_neg (by omega), Int.toNat_of_nonneg y0]⟩
  left
  exact ⟨by simpa using hx, by rw [if_pos (by omega)]⟩
end Th
namespace Th
def sumZ (m1 e1 m2 e2 e : Int) : Int := m1 * (10 ^ (e1 - e).toNat : Nat) + m2 * (10 ^ (e2 - e).toNat : Nat)
theorem right_spec {m e : Int} (h : right m e = true) (hm : m ≠ 0) : m.natAbs < 1000000000000000000 ∧ m.natAbs % 10 ≠ 0 ∧ -64 ≤ e ∧ e ≤ 64 := by
  unfold right at h; rw [if_neg hm] at h; simp only [Bool.and_eq_true, decide_eq_true_eq] at h; exact ⟨h.1.1.1, h.1.1.2, h.1.2, h.2⟩
theorem right_exp {m e : Int} (h : right m e = true) : -64 ≤ e ∧ e ≤ 64 := by
  by_cases hm : m = 0
  · subst hm; simp [right] at h; omega
  exact (right_spec h hm).2.2
theorem right_size {m e : Int} (h : right m e = true) : m.natAbs < 1000000000000000000 := by
  by_cases hm : m = 0
  · subst hm; decide
  exact (right_spec h hm).1
end Th
namespace Th
def nDig : List UInt8 → Nat
  | [] => 0
  | c :: l => if 48 ≤ c.toNat ∧ c.toNat ≤ 57 then nDig l + 1 else 0
theorem nDig_le (l : List UInt8) : nDig l ≤ l.length := by
  induction l with
  | nil => simp [nDig]
  | cons c l ih => simp only [nDig, List.length_cons]; split <;> omega
theorem nDig_get (l : List UInt8) : ∀ (k : Nat) (h : k < l.length), k < nDig l → 48 ≤ l[k].toNat ∧ l[k].toNat ≤ 57 := by
  induction l with
  | nil => intro k h; simp at h
  | cons c l ih =>
    intro k h hk; simp only [nDig] at hk; split at hk
    · rename_i hc
      cases k with
      | zero => exact hc
      | succ k => exact ih k (by simpa using h) (by omega)
    omega
def dg (c : UInt8) : Nat := c.toNat - 48
def dgs (l : List UInt8) : List Nat := l.map dg
def clampN (l : List UInt8) : Nat := l.foldl (fun a c => min (a * 10 + dg c) 1099511627776) 0
theorem clampN_snoc (l : List UInt8) (c : UInt8) : clampN (l ++ [c]) = min (clampN l * 10 + dg c) 1099511627776 := by
  unfold clampN; rw [List.foldl_append]; rfl
theorem clamp_fold (l : List UInt8) : ∀ a : Nat, l.foldl (fun a c => min (a * 10 + dg c) 1099511627776) (min a 1099511627776) = min (l.foldl (fun a c => a * 10 + dg c) a) 1099511627776 := by
  induction l with
  | nil => intro a; rfl
  | cons c l ih =>
    intro a; simp only [List.foldl_cons]; rw [← ih, show min (min a 1099511627776 * 10 + dg c) 1099511627776 = min (a * 10 + dg c) 1099511627776 by omega]
theorem clampN_eq (l : List UInt8) : clampN l = min (val (dgs l)) 1099511627776 := by
  have h := clamp_fold l 0; unfold clampN val dgs; rw [List.foldl_map]; exact h
theorem clampN_le (l : List UInt8) : clampN l ≤ 1099511627776 := by rw [clampN_eq]; omega
def chkE (neg : Bool) (u : List UInt8) : Option (Bool × List UInt8) := if nDig u = 0 ∨ nDig u < u.length then none else some (neg, u)
def expoP (l : List UInt8) : Option (Bool × List UInt8) :=
  if l = [] then some (false, []) else
  if l.head? = some 101 ∨ l.head? = some 69 then
    (if (l.drop 1).head? = some 45 then chkE true (l.drop 2) else if (l.drop 1).head? = some 43 then chkE false (l.drop 2) else chkE false (l.drop 1))
  else none
def sg (neg : Bool) (n : Int) : Int := if neg then -n else n
end Th
namespace Th
open Go
def AllDig (l : List UInt8) : Prop := ∀ c ∈ l, 48 ≤ c.toNat ∧ c.toNat ≤ 57
theorem allDig_take (l : List UInt8) : AllDig (l.take (nDig l)) := by
  intro c hc; obtain ⟨k, hk, rfl⟩ := List.getElem_of_mem hc; rw [List.length_take] at hk; rw [List.getElem_take]; exact nDig_get l k (by omega) (by omega)
theorem allDig_append {a b : List UInt8} (ha : AllDig a) (hb : AllDig b) : AllDig (a ++ b) := by
  intro c hc; rcases List.mem_append.1 hc with h | h
  · exact ha c h
  exact hb c h
theorem dgs_append (a b : List UInt8) : dgs (a ++ b) = dgs a ++ dgs b := List.map_append
theorem dgs_length (a : List UInt8) : (dgs a).length = a.length := by simp [dgs]
theorem val_trimLeft (l : List UInt8) : val (dgs (Lib.trimLeftB l 48)) = val (dgs l) := by
  unfold Lib.trimLeftB; induction l with
  | nil => rfl
  | cons c l ih =>
    rw [List.dropWhile_cons]; split
    · rename_i h
      have : c = 48 := by simpa using h
      subst this; rw [ih]; show _ = val (dg 48 :: dgs l)
      rw [val_cons]; simp [dg]
    rfl
theorem val_rev (r : List UInt8) : (r.dropWhile (· == 48)).length ≤ r.length ∧ val (dgs r.reverse) = val (dgs (r.dropWhile (· == 48)).reverse) * 10 ^ (r.length - (r.dropWhile (· == 48)).length) := by
  induction r with
  | nil => exact ⟨Nat.le_refl _, rfl⟩
  | cons c r ih =>
    rw [List.dropWhile_cons]; split
    · rename_i h
      have : c = 48 := by simpa using h
      subst this; obtain ⟨h1, h2⟩ := ih; refine ⟨by simp only [List.length_cons]; omega, ?_⟩; rw [List.reverse_cons, dgs_append, show dgs [48] = [0] by rfl, val_snoc, h2, List.length_cons, show r.length + 1 - (r.dropWhile (· == 48)).length = (r.length - (r.dropWhile (· == 48)).length) + 1 by omega, Nat.pow_succ]; simp [Nat.mul_assoc]
    simp
theorem val_trimRight (l : List UInt8) : (Lib.trimRightB l 48).length ≤ l.length ∧ val (dgs l) = val (dgs (Lib.trimRightB l 48)) * 10 ^ (l.length - (Lib.trimRightB l 48).length) := by
  have h := val_rev l.reverse; rw [List.reverse_reverse, List.length_reverse] at h; unfold Lib.trimRightB; rw [List.length_reverse]; exact h
theorem trimLeft_length (l : List UInt8) (c : UInt8) : (Lib.trimLeftB l c).length ≤ l.length := by
  unfold Lib.trimLeftB; exact List.Sublist.length_le (List.dropWhile_sublist _)
theorem trimLeft_mem {l : List UInt8} {c x : UInt8} (h : x ∈ Lib.trimLeftB l c) : x ∈ l := (List.dropWhile_sublist _).subset h
theorem trimRight_mem {l : List UInt8} {c x : UInt8} (h : x ∈ Lib.trimRightB l c) : x ∈ l := by
  unfold Lib.trimRightB at h; have := (List.dropWhile_sublist _).subset (List.mem_reverse.1 h); simpa using this
theorem trimLeft_head (l : List UInt8) (c x : UInt8) (t : List UInt8) (h : Lib.trimLeftB l c = x :: t) : x ≠ c := by
  unfold Lib.trimLeftB at h; have h2 := List.head?_dropWhile_not (· == c) l; rw [h] at h2; simpa using h2
theorem trimRight_prefix (l : List UInt8) (c : UInt8) : Lib.trimRightB l c <+: l := by
  unfold Lib.trimRightB; have := List.dropWhile_suffix (l := l.reverse) (· == c); have h2 := List.reverse_prefix.2 this; rwa [List.reverse_reverse] at h2
theorem trimRight_last (l : List UInt8) (c : UInt8) (t : List UInt8) (x : UInt8) (h : Lib.trimRightB l c = t ++ [x]) : x ≠ c := by
  unfold Lib.trimRightB at h; have h1 := congrArg List.reverse h; rw [List.reverse_reverse, List.reverse_append] at h1; exact trimLeft_head l.reverse c x t.reverse h1
theorem trim_val (l : List UInt8) (hl : AllDig l) (L T : List UInt8) (hL : Lib.trimLeftB l 48 = L) (hT : Lib.trimRightB L 48 = T) :
    L.length ≤ l.length ∧ T.length ≤ L.length ∧ AllDig T ∧ val (dgs l) = val (dgs T) * 10 ^ (L.length - T.length) ∧ (T = [] → val (dgs l) = 0) ∧
    (T ≠ [] → val (dgs T) % 10 ≠ 0 ∧ 10 ^ (T.length - 1) ≤ val (dgs T)) := by
  have hTd : AllDig T := fun c hc => hl c (by subst hL hT; exact trimLeft_mem (trimRight_mem hc))
  have h1 := val_trimLeft l; have h2 := val_trimRight L; rw [hL] at h1; rw [hT] at h2; have he : val (dgs l) = val (dgs T) * 10 ^ (L.length - T.length) := by rw [← h1]; exact h2.2
  refine ⟨by rw [← hL]; exact trimLeft_length _ _, h2.1, hTd, he, ?_, ?_⟩
  · intro h0; rw [he, h0]; simp [dgs, val]
  intro h0; constructor
  · have hs : T = T.dropLast ++ [T.getLast h0] := (List.dropLast_concat_getLast h0).symm
    have hx := trimRight_last L 48 _ _ (hT.trans hs); have hd := hTd (T.getLast h0) (List.getLast_mem h0); rw [hs, dgs_append, show dgs [T.getLast h0] = [dg (T.getLast h0)] from rfl, val_snoc]; have : (T.getLast h0).toNat ≠ 48 := fun h => hx (UInt8.toNat.inj h)
    unfold dg; omega
  cases hTT : T with
  | nil => exact absurd hTT h0
  | cons x t =>
    have hp := trimRight_prefix L 48; rw [hT, hTT] at hp; obtain ⟨r, hr⟩ := hp; have hx := trimLeft_head l 48 x (t ++ r) (by rw [hL, ← hr]; rfl); have hd := hTd x (by rw [hTT]; simp); have : x.toNat ≠ 48 := fun h => hx (UInt8.toNat.inj h)
    have := val_ge (dg x) (dgs t) (by unfold dg; omega); rw [dgs_length] at this; exact this
def fracP (r : List UInt8) : Option (List UInt8 × List UInt8) :=
  if r.head? = some 46 then (if nDig (r.drop 1) = 0 then none else some ((r.drop 1).take (nDig (r.drop 1)), (r.drop 1).drop (nDig (r.drop 1)))) else some ([], r)
def coreP (u : List UInt8) : Option (List UInt8 × Int) :=
  if nDig u = 0 ∨ (1 < nDig u ∧ u.head? = some 48) then none else
  match fracP (u.drop (nDig u)) with
  | none => none
  | some (f, r) => match expoP r with
    | none => none
    | some (en, x) => some (u.take (nDig u) ++ f, sg en (clampN x) - f.length)
def coreN (neg : Bool) (u : List UInt8) : (Int × Int) × Int := match coreP u with
  | none => ((0, 0), 10)
  | some (ds, e) => norm neg (val (dgs ds)) e
def parseN (l : List UInt8) : (Int × Int) × Int := if l.head? = some 45 then coreN true (l.drop 1) else coreN false l
theorem core_bad (neg : Bool) (u : List UInt8) (h : nDig u = 0 ∨ (1 < nDig u ∧ u.head? = some 48)) : coreN neg u = ((0, 0), 10) := by
  unfold coreN coreP; rw [if_pos h]
theorem core_frac (neg : Bool) (u : List UInt8) (h : fracP (u.drop (nDig u)) = none) : coreN neg u = ((0, 0), 10) := by
  unfold coreN coreP; split <;> rename_i h2
  · rfl
  split at h2
  · cases h2
  rw [h] at h2; cases h2
theorem core_expo (neg : Bool) (u f r : List UInt8) (h : fracP (u.drop (nDig u)) = some (f, r)) (he : expoP r = none) : coreN neg u = ((0, 0), 10) := by
  unfold coreN coreP; split <;> rename_i h2
  · rfl
  split at h2
  · cases h2
  rw [h] at h2; simp only [he] at h2; cases h2
theorem core_good (neg : Bool) (u f r x : List UInt8) (en : Bool) (h : ¬ (nDig u = 0 ∨ (1 < nDig u ∧ u.head? = some 48))) (hf : fracP (u.drop (nDig u)) = some (f, r)) (he : expoP r = some (en, x)) :
    coreN neg u = norm neg (val (dgs (u.take (nDig u) ++ f))) (sg en (clampN x) - f.length) := by
  unfold coreN coreP; rw [if_neg h, hf]; simp only [he]
end Th
namespace Th
end Th
namespace Th
open Go Go.RowKit
structure Keep (p : Prop) : Prop where
  out : p
def Above (W : World) : Type := { w' : World // Below W.heap.size W w' }
theorem lt_of_cell {W : World} {a : Addr} {v : Value} (h : W.cell? a = some v) : a.block < W.heap.size := World.block_lt_of_cell? W a h
theorem Above.cell {W : World} (x : Above W) {a : Addr} (h : a.block < W.heap.size) : x.val.cell? a = W.cell? a := x.property.cell h
instance (W : World) : Nonempty (Above W) := ⟨⟨W, Below.refl _ _⟩⟩
theorem below_drawn (W : World) : Below W.heap.size W { W with drawn := W.drawn + 1 } := ⟨rfl, rfl, rfl, Nat.le_refl _, fun _ _ => rfl⟩
theorem wp_region_above {P : Program} {id : Nat} {Q : Exit → Act → World → Prop} {a : Act} {w : World} {l : List Oper} (hm : P.follows .mixedOrders = true) (hB : Region.lexB .any l.toArray = true)
    (h : wpQuiet P l.toArray (fun w' => ∃ x : Above w, w' = x.val) (fun a' => ∀ w', (∃ x : Above w, w' = x.val) → Q .normal a' w') l a) : (Code.region id l.toArray true).wp P Q a w :=
  wp_region_quiet (C := fun w' => ∃ x : Above w, w' = x.val) hm hB ⟨⟨_, below_drawn w⟩, rfl⟩ (by simpa using h)
theorem calls_above {P : Program} {f : FuncId} {args : Array Value} {W : World} {x : Above W} {v : Value} (h : Calls P f args x.val fun e w' => e = .returned v ∧ Below x.val.heap.size x.val w') :
    Calls P f args x.val fun e w'' => e = .returned v ∧ ∃ y : Above W, w'' = y.val :=
  h.mono fun _ w' ⟨he, hb⟩ => ⟨he, ⟨w', x.property.trans (hb.mono x.property.size)⟩, rfl⟩
theorem bcell {W w1 : World} (hb : Below W.heap.size W w1) : (∀ b o, b < W.heap.size → w1.cell? ⟨b, o, none⟩ = W.cell? ⟨b, o, none⟩) ∧ (∀ b o, b < W.heap.size → w1.frozen? ⟨b, o, none⟩ = W.frozen? ⟨b, o, none⟩) :=
  ⟨fun b o h => hb.cell (p := ⟨b, o, none⟩) h, fun b o h => hb.frozen (p := ⟨b, o, none⟩) h⟩
theorem wp_region_from {P : Program} {W0 : World} {id : Nat} {Q : Exit → Act → World → Prop} {a : Act} {w : World} {l : List Oper} (hb : Below W0.heap.size W0 w) (hm : P.follows .mixedOrders = true) (hB : Region.lexB .any l.toArray = true)
    (h : wpQuiet P l.toArray (fun w' => ∃ x : Above W0, w' = x.val) (fun a' => ∀ w', (∃ x : Above W0, w' = x.val) → Q .normal a' w') l a) : (Code.region id l.toArray true).wp P Q a w :=
  wp_region_quiet (C := fun w' => ∃ x : Above W0, w' = x.val) hm hB ⟨⟨_, hb.trans ((below_drawn w).mono hb.size)⟩, rfl⟩ (by simpa using h)
theorem calls_same {P : Program} {f : FuncId} {args : Array Value} {w : World} {v : Value} (h : Calls P f args w fun e w' => e = .returned v ∧ w' = w) : Calls P f args w fun e w' => e = .returned v ∧ Below w.heap.size w w' :=
  h.mono fun _ _ ⟨he, hw⟩ => ⟨he, by rw [hw]; exact Below.refl _ _⟩
theorem wp_world {P : Program} {c : Code} {Q : Exit → Act → World → Prop} {a : Act} {w : World} (F : World → Prop) (h : F w) (k : ∀ W, F W → c.wp P Q a W) : c.wp P Q a w := k w h
theorem up {w W0 w1 : World} (h : Below w.heap.size w W0) (hb : Below W0.heap.size W0 w1) : Below w.heap.size w w1 := h.trans (hb.mono h.size)
theorem al1 (w : World) (o : Obj) : Below w.heap.size w (w.alloc o) := (Below.refl _ _).alloc (Nat.le_refl _) _
theorem st1 {w W : World} (h : Below w.heap.size w W) (b o : Nat) (v : Value) (hb : w.heap.size ≤ b) : Below w.heap.size w (W.setCell ⟨b, o, none⟩ v) := h.setCell hb v
end Th
