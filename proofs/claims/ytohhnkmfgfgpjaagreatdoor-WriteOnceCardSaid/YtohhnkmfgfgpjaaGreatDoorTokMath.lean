/- Plain law on JSON's tokens, and on the reading of values of them. No conditions: it imports no program. -/
import Derived.Test.YtohhnkmfgfgpjaaGreatDoorReadMath
import Derived.Lib.Bytealg
namespace Th
open Go Go.Lib

def letterC (c : UInt8) : Bool := decide (97 ≤ c.toNat ∧ c.toNat ≤ 122)
def numC (c : UInt8) : Bool := decide (48 ≤ c.toNat ∧ c.toNat ≤ 57) || decide (c.toNat = 43) || decide (c.toNat = 45) || decide (c.toNat = 46) || decide (c.toNat = 101) || decide (c.toNat = 69)
def blankC (c : UInt8) : Bool := decide (c.toNat = 32) || decide (c.toNat = 9) || decide (c.toNat = 10) || decide (c.toNat = 13)
def signC (c : UInt8) : Bool := decide (c.toNat = 123) || decide (c.toNat = 125) || decide (c.toNat = 91) || decide (c.toNat = 93) || decide (c.toNat = 58) || decide (c.toNat = 44)
/-- how many bytes in front are so -/
def runB (p : UInt8 → Bool) : List UInt8 → Nat
  | [] => 0
  | c :: r => if p c = true then runB p r + 1 else 0
theorem runB_le (p : UInt8 → Bool) : ∀ l : List UInt8, runB p l ≤ l.length
  | [] => Nat.le_refl _
  | c :: r => by
    have := runB_le p r
    simp only [runB, List.length_cons]
    split <;> omega
theorem runB_in (p : UInt8 → Bool) : ∀ (l : List UInt8) (i : Nat) (h : i < l.length), i < runB p l → p l[i] = true
  | c :: r, 0, _, h => by
    simp only [runB] at h
    split at h
    · assumption
    · omega
  | c :: r, i + 1, h, hi => by
    simp only [runB] at hi
    split at hi
    · exact runB_in p r i (by simpa using h) (by omega)
    · omega
theorem runB_at (p : UInt8 → Bool) : ∀ (l : List UInt8) (h : runB p l < l.length), p l[runB p l] = false
  | [], h => by simp at h
  | c :: r, h => by
    by_cases hc : p c = true
    · have e : runB p (c :: r) = runB p r + 1 := by simp only [runB]; rw [if_pos hc]
      have := runB_at p r (by rw [e] at h; simpa using h)
      simp only [e, List.getElem_cons_succ]
      exact this
    · have e : runB p (c :: r) = 0 := by simp only [runB]; rw [if_neg hc]
      simp only [e, List.getElem_cons_zero]
      simpa using hc
/-- where the first that is not so stands -/
theorem runB_stop (p : UInt8 → Bool) (l : List UInt8) (n : Nat) (hn : n ≤ l.length) (h1 : ∀ i (h : i < l.length), i < n → p l[i] = true) (h2 : n = l.length ∨ ∃ h : n < l.length, p l[n] = false) : runB p l = n := by
  rcases Nat.lt_trichotomy (runB p l) n with h | h | h
  · have := runB_at p l (by omega)
    rw [h1 _ _ h] at this; cases this
  · exact h
  · rcases h2 with h2 | ⟨hl, h2⟩
    · have := runB_le p l; omega
    · have := runB_in p l n hl h
      rw [this] at h2; cases h2
theorem index_num (c : UInt8) : decide (0 ≤ indexByte [48, 49, 50, 51, 52, 53, 54, 55, 56, 57, 43, 45, 46, 101, 69] c) = numC c := by
  have : ∀ n, n < 256 → decide (0 ≤ indexByte [48, 49, 50, 51, 52, 53, 54, 55, 56, 57, 43, 45, 46, 101, 69] (UInt8.ofNat n)) = numC (UInt8.ofNat n) := by decide +kernel
  have h := this c.toNat c.toNat_lt
  simpa using h
theorem index_sign (c : UInt8) : decide (0 ≤ indexByte [123, 125, 91, 93, 58, 44] c) = signC c := by
  have : ∀ n, n < 256 → decide (0 ≤ indexByte [123, 125, 91, 93, 58, 44] (UInt8.ofNat n)) = signC (UInt8.ofNat n) := by decide +kernel
  have h := this c.toNat c.toNat_lt
  simpa using h
/-- a word: its kind, how long it is, what is wrong -/
def wordV (l : List UInt8) : Int × Nat × Int :=
  if l.take (runB letterC l) = [110, 117, 108, 108] then (0, runB letterC l, 0) else if l.take (runB letterC l) = [102, 97, 108, 115, 101] then (1, runB letterC l, 0)
  else if l.take (runB letterC l) = [116, 114, 117, 101] then (2, runB letterC l, 0) else (0, 0, 60)

/-- a token -/
structure Tk where
  sign : Nat
  k : Int
  m : Int
  x : Int
  s : ByteArray
  at_ : Nat
  to_ : Nat
  e : Int
def Tk.v (t : Tk) : JV := .mk t.k t.m t.x t.s [] []
def zeroJ : JV := .mk 0 0 0 ⟨#[]⟩ [] []
/-- the token that bytes begin with, at a place -/
def oneT (l : List UInt8) (a : Nat) : Tk := match l with
  | [] => ⟨255, 0, 0, 0, ⟨#[]⟩, a, a, 0⟩
  | c :: r => if signC c = true then ⟨c.toNat, 0, 0, 0, ⟨#[]⟩, a, a + 1, 0⟩
    else if c.toNat = 34 then ⟨0, 4, 0, 0, ⟨(readQ (c :: r)).1.toArray⟩, a, a + (readQ (c :: r)).2.1, (readQ (c :: r)).2.2⟩
    else if letterC c = true then ⟨0, (wordV (c :: r)).1, 0, 0, ⟨#[]⟩, a, a + (wordV (c :: r)).2.1, (wordV (c :: r)).2.2⟩
    else if c.toNat = 45 ∨ (48 ≤ c.toNat ∧ c.toNat ≤ 57) then ⟨0, 3, (parseN ((c :: r).take (runB numC (c :: r)))).1.1, (parseN ((c :: r).take (runB numC (c :: r)))).1.2, ⟨#[]⟩, a, a + runB numC (c :: r), (parseN ((c :: r).take (runB numC (c :: r)))).2⟩
    else ⟨0, 0, 0, 0, ⟨#[]⟩, a, a, 60⟩
def nextT (l : List UInt8) (a : Nat) : Tk := oneT (l.drop (a + runB blankC (l.drop a))) (a + runB blankC (l.drop a))
end Th
