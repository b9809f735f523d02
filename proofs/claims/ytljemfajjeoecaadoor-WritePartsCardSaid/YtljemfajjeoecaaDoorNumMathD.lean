/- Plain arithmetic on the texts of numbers: the form of a text, and what it is worth. No conditions: it imports no program. -/
import Derived.Test.YtljemfajjeoecaaDoorNumMathC
import Derived.Lib.TrimByte
namespace Th
open Go

/-- all bytes are digits -/
def AllDig (l : List UInt8) : Prop := ∀ c ∈ l, 48 ≤ c.toNat ∧ c.toNat ≤ 57
theorem allDig_take (l : List UInt8) : AllDig (l.take (nDig l)) := by
  intro c hc
  obtain ⟨k, hk, rfl⟩ := List.getElem_of_mem hc
  rw [List.length_take] at hk
  rw [List.getElem_take]
  exact nDig_get l k (by omega) (by omega)
theorem allDig_append {a b : List UInt8} (ha : AllDig a) (hb : AllDig b) : AllDig (a ++ b) := by
  intro c hc
  rcases List.mem_append.1 hc with h | h
  · exact ha c h
  · exact hb c h
theorem nDig_all (l : List UInt8) (h : AllDig l) : nDig l = l.length := by
  induction l with
  | nil => rfl
  | cons c l ih => rw [nDig, if_pos (h c (by simp)), ih (fun d hd => h d (by simp [hd]))]; rfl
theorem dgs_all (l : List UInt8) (h : AllDig l) : Digs (dgs l) := dgs_digs l (nDig_all l h)
theorem dgs_append (a b : List UInt8) : dgs (a ++ b) = dgs a ++ dgs b := List.map_append
theorem dgs_length (a : List UInt8) : (dgs a).length = a.length := by simp [dgs]

theorem val_trimLeft (l : List UInt8) : val (dgs (Lib.trimLeftB l 48)) = val (dgs l) := by
  unfold Lib.trimLeftB
  induction l with
  | nil => rfl
  | cons c l ih =>
    rw [List.dropWhile_cons]
    split
    · rename_i h
      have : c = 48 := by simpa using h
      subst this
      rw [ih]
      show _ = val (dg 48 :: dgs l)
      rw [val_cons]; simp [dg]
    · rfl
theorem val_rev (r : List UInt8) : (r.dropWhile (· == 48)).length ≤ r.length ∧ val (dgs r.reverse) = val (dgs (r.dropWhile (· == 48)).reverse) * 10 ^ (r.length - (r.dropWhile (· == 48)).length) := by
  induction r with
  | nil => exact ⟨Nat.le_refl _, rfl⟩
  | cons c r ih =>
    rw [List.dropWhile_cons]
    split
    · rename_i h
      have : c = 48 := by simpa using h
      subst this
      obtain ⟨h1, h2⟩ := ih
      refine ⟨by simp only [List.length_cons]; omega, ?_⟩
      rw [List.reverse_cons, dgs_append, show dgs [48] = [0] by rfl, val_snoc, h2, List.length_cons, show r.length + 1 - (r.dropWhile (· == 48)).length = (r.length - (r.dropWhile (· == 48)).length) + 1 by omega, Nat.pow_succ]
      simp [Nat.mul_assoc]
    · simp
theorem val_trimRight (l : List UInt8) : (Lib.trimRightB l 48).length ≤ l.length ∧ val (dgs l) = val (dgs (Lib.trimRightB l 48)) * 10 ^ (l.length - (Lib.trimRightB l 48).length) := by
  have h := val_rev l.reverse
  rw [List.reverse_reverse, List.length_reverse] at h
  unfold Lib.trimRightB
  rw [List.length_reverse]
  exact h
theorem trimLeft_length (l : List UInt8) (c : UInt8) : (Lib.trimLeftB l c).length ≤ l.length := by
  unfold Lib.trimLeftB
  exact List.Sublist.length_le (List.dropWhile_sublist _)
theorem trimLeft_mem {l : List UInt8} {c x : UInt8} (h : x ∈ Lib.trimLeftB l c) : x ∈ l := (List.dropWhile_sublist _).subset h
theorem trimRight_mem {l : List UInt8} {c x : UInt8} (h : x ∈ Lib.trimRightB l c) : x ∈ l := by
  unfold Lib.trimRightB at h
  have := (List.dropWhile_sublist _).subset (List.mem_reverse.1 h)
  simpa using this
theorem trimLeft_head (l : List UInt8) (c x : UInt8) (t : List UInt8) (h : Lib.trimLeftB l c = x :: t) : x ≠ c := by
  unfold Lib.trimLeftB at h
  have h2 := List.head?_dropWhile_not (· == c) l
  rw [h] at h2
  simpa using h2
theorem trimRight_prefix (l : List UInt8) (c : UInt8) : Lib.trimRightB l c <+: l := by
  unfold Lib.trimRightB
  have := List.dropWhile_suffix (l := l.reverse) (· == c)
  have h2 := List.reverse_prefix.2 this
  rwa [List.reverse_reverse] at h2
theorem trimRight_last (l : List UInt8) (c : UInt8) (t : List UInt8) (x : UInt8) (h : Lib.trimRightB l c = t ++ [x]) : x ≠ c := by
  unfold Lib.trimRightB at h
  have h1 := congrArg List.reverse h
  rw [List.reverse_reverse, List.reverse_append] at h1
  exact trimLeft_head l.reverse c x t.reverse h1

/-- what a row of digits is worth, with the noughts of both its ends taken off -/
theorem trim_val (l : List UInt8) (hl : AllDig l) (L T : List UInt8) (hL : Lib.trimLeftB l 48 = L) (hT : Lib.trimRightB L 48 = T) :
    L.length ≤ l.length ∧ T.length ≤ L.length ∧ AllDig T ∧ val (dgs l) = val (dgs T) * 10 ^ (L.length - T.length) ∧ (T = [] → val (dgs l) = 0) ∧
    (T ≠ [] → val (dgs T) % 10 ≠ 0 ∧ 10 ^ (T.length - 1) ≤ val (dgs T)) := by
  have hTd : AllDig T := fun c hc => hl c (by subst hL hT; exact trimLeft_mem (trimRight_mem hc))
  have h1 := val_trimLeft l
  have h2 := val_trimRight L
  rw [hL] at h1
  rw [hT] at h2
  have he : val (dgs l) = val (dgs T) * 10 ^ (L.length - T.length) := by rw [← h1]; exact h2.2
  refine ⟨by rw [← hL]; exact trimLeft_length _ _, h2.1, hTd, he, ?_, ?_⟩
  · intro h0; rw [he, h0]; simp [dgs, val]
  · intro h0
    constructor
    · have hs : T = T.dropLast ++ [T.getLast h0] := (List.dropLast_concat_getLast h0).symm
      have hx := trimRight_last L 48 _ _ (hT.trans hs)
      have hd := hTd (T.getLast h0) (List.getLast_mem h0)
      rw [hs, dgs_append, show dgs [T.getLast h0] = [dg (T.getLast h0)] from rfl, val_snoc]
      have : (T.getLast h0).toNat ≠ 48 := fun h => hx (UInt8.toNat.inj h)
      unfold dg
      omega
    · cases hTT : T with
      | nil => exact absurd hTT h0
      | cons x t =>
        have hp := trimRight_prefix L 48
        rw [hT, hTT] at hp
        obtain ⟨r, hr⟩ := hp
        have hx := trimLeft_head l 48 x (t ++ r) (by rw [hL, ← hr]; rfl)
        have hd := hTd x (by rw [hTT]; simp)
        have : x.toNat ≠ 48 := fun h => hx (UInt8.toNat.inj h)
        have := val_ge (dg x) (dgs t) (by unfold dg; omega)
        rw [dgs_length] at this
        exact this

/-- the digits behind a point, and what is left -/
def fracP (r : List UInt8) : Option (List UInt8 × List UInt8) :=
  if r.head? = some 46 then (if nDig (r.drop 1) = 0 then none else some ((r.drop 1).take (nDig (r.drop 1)), (r.drop 1).drop (nDig (r.drop 1)))) else some ([], r)
/-- a text without its sign: its digits, and how far they are moved -/
def coreP (u : List UInt8) : Option (List UInt8 × Int) :=
  if nDig u = 0 ∨ (1 < nDig u ∧ u.head? = some 48) then none else
  match fracP (u.drop (nDig u)) with
  | none => none
  | some (f, r) => match expoP r with
    | none => none
    | some (en, x) => some (u.take (nDig u) ++ f, sg en (clampN x) - f.length)
def coreN (neg : Bool) (u : List UInt8) : (Int × Int) × Int := match coreP u with
  | none => ((0, 0), 10)
  | some (ds, e) => norm neg (val (dgs ds)) e
/-- the number that a text is, or that it is none -/
def parseN (l : List UInt8) : (Int × Int) × Int := if l.head? = some 45 then coreN true (l.drop 1) else coreN false l

theorem core_bad (neg : Bool) (u : List UInt8) (h : nDig u = 0 ∨ (1 < nDig u ∧ u.head? = some 48)) : coreN neg u = ((0, 0), 10) := by
  unfold coreN coreP; rw [if_pos h]
theorem core_frac (neg : Bool) (u : List UInt8) (h : fracP (u.drop (nDig u)) = none) : coreN neg u = ((0, 0), 10) := by
  unfold coreN coreP; split <;> rename_i h2
  · rfl
  · split at h2
    · cases h2
    · rw [h] at h2; cases h2
theorem core_expo (neg : Bool) (u f r : List UInt8) (h : fracP (u.drop (nDig u)) = some (f, r)) (he : expoP r = none) : coreN neg u = ((0, 0), 10) := by
  unfold coreN coreP; split <;> rename_i h2
  · rfl
  · split at h2
    · cases h2
    · rw [h] at h2; simp only [he] at h2; cases h2
theorem core_good (neg : Bool) (u f r x : List UInt8) (en : Bool) (h : ¬ (nDig u = 0 ∨ (1 < nDig u ∧ u.head? = some 48))) (hf : fracP (u.drop (nDig u)) = some (f, r)) (he : expoP r = some (en, x)) :
    coreN neg u = norm neg (val (dgs (u.take (nDig u) ++ f))) (sg en (clampN x) - f.length) := by
  unfold coreN coreP; rw [if_neg h, hf]; simp only [he]
end Th
