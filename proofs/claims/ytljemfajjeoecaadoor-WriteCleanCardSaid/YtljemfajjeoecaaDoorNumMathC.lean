/- Plain arithmetic on the texts of numbers: digits, exponents, the form of a text. No conditions: it imports no program. -/
import Derived.Test.YtljemfajjeoecaaDoorNumMathB
namespace Th

/-- how many digits a text begins with -/
def nDig : List UInt8 → Nat
  | [] => 0
  | c :: l => if 48 ≤ c.toNat ∧ c.toNat ≤ 57 then nDig l + 1 else 0

theorem nDig_le (l : List UInt8) : nDig l ≤ l.length := by
  induction l with
  | nil => simp [nDig]
  | cons c l ih => simp only [nDig, List.length_cons]; split <;> omega

theorem nDig_get (l : List UInt8) : ∀ (k : Nat) (h : k < l.length), k < nDig l → 48 ≤ l[k].toNat ∧ l[k].toNat ≤ 57 := by
  induction l with
  | nil => intro k h; simp at h
  | cons c l ih =>
    intro k h hk
    simp only [nDig] at hk
    split at hk
    · rename_i hc
      cases k with
      | zero => exact hc
      | succ k => exact ih k (by simpa using h) (by omega)
    · omega

/-- a digit's number -/
def dg (c : UInt8) : Nat := c.toNat - 48
def dgs (l : List UInt8) : List Nat := l.map dg
theorem dgs_digs (l : List UInt8) (h : nDig l = l.length) : Digs (dgs l) := by
  intro d hd
  obtain ⟨c, hc, rfl⟩ := List.mem_map.1 hd
  obtain ⟨k, hk, rfl⟩ := List.getElem_of_mem hc
  have := nDig_get l k hk (by omega)
  unfold dg; omega

/-- an exponent, cut off -/
def clampN (l : List UInt8) : Nat := l.foldl (fun a c => min (a * 10 + dg c) 1099511627776) 0
theorem clampN_snoc (l : List UInt8) (c : UInt8) : clampN (l ++ [c]) = min (clampN l * 10 + dg c) 1099511627776 := by
  unfold clampN; rw [List.foldl_append]; rfl
theorem clamp_fold (l : List UInt8) : ∀ a : Nat, l.foldl (fun a c => min (a * 10 + dg c) 1099511627776) (min a 1099511627776) = min (l.foldl (fun a c => a * 10 + dg c) a) 1099511627776 := by
  induction l with
  | nil => intro a; rfl
  | cons c l ih =>
    intro a
    simp only [List.foldl_cons]
    rw [← ih, show min (min a 1099511627776 * 10 + dg c) 1099511627776 = min (a * 10 + dg c) 1099511627776 by omega]
theorem clampN_eq (l : List UInt8) : clampN l = min (val (dgs l)) 1099511627776 := by
  have h := clamp_fold l 0
  unfold clampN val dgs
  rw [List.foldl_map]
  exact h
theorem clampN_le (l : List UInt8) : clampN l ≤ 1099511627776 := by rw [clampN_eq]; omega

def chkE (neg : Bool) (u : List UInt8) : Option (Bool × List UInt8) := if nDig u = 0 ∨ nDig u < u.length then none else some (neg, u)
/-- what an exponent's text is: below zero?, and its digits -/
def expoP (l : List UInt8) : Option (Bool × List UInt8) :=
  if l = [] then some (false, []) else
  if l.head? = some 101 ∨ l.head? = some 69 then
    (if (l.drop 1).head? = some 45 then chkE true (l.drop 2) else if (l.drop 1).head? = some 43 then chkE false (l.drop 2) else chkE false (l.drop 1))
  else none
def sg (neg : Bool) (n : Int) : Int := if neg then -n else n
end Th
