/- Lemmas and contracts for the laws ReadParses, ReadBytes, part 7 of 50: Quote, TokMath. Conditions: those that each lemma names. -/
import Derived.Test.YtbngjlkmpdccjaaGreatDoorPack2
import Derived.Test.YtbngjlkmpdccjaaGreatDoorPack5
import Derived.Deep.AppendLies
import Derived.Deep.LoopGhost
import Derived.Deep.RegionLaw
import Derived.Deep.DrawnRows
import Derived.Deep.CutBlock
import Derived.Deep.DeepCutAuto
import Derived.IntWalk
import Derived.Outline
import Derived.Lib.Bytealg
namespace Go.Proofs.YtbngjlkmpdccjaaGreatDoor
open Go Go.RowKit Go.Proofs Th
attribute [local go_sem] Above.cell
def Utf (w : World) : Prop := Lib.Utf8Tabs 1 2 w
theorem Utf.below {w w' : World} (h : Utf w) (b : Below w.heap.size w w') : Utf w' := by
  refine ⟨fun c hc => (b.cell (lt_of_cell (h.1 c hc))).trans (h.1 c hc), fun i hi => ⟨(b.cell (lt_of_cell (h.2 i hi).1)).trans (h.2 i hi).1, (b.cell (lt_of_cell (h.2 i hi).2)).trans (h.2 i hi).2⟩⟩
theorem append_rune (B : Nat) (v : Value) (acc : List UInt8) (c : Nat) (hc : c ≤ 1114111) (w : World) (hO : OwnB w B v acc) (hl : acc.length ≤ 100000000000) (hB : B ≤ w.heap.size) :
    Calls Tryz.prog 29 #[v, .int .i32 c] w fun r w' => ∃ v', r = .returned v' ∧ OwnB w' B v' (acc ++ Lib.encodeRune c) ∧ Below B w w' ∧ (∀ k s pos, Iter w k s pos → Iter w' k s pos) := by
  refine (Tryz.utf8_AppendRune_plain B v acc.length (Lib.byteCells acc) c (by omega) (by omega) w hO (by omega) hB).mono ?_
  rintro r w' ⟨v', rfl, h1, o, h2⟩
  refine ⟨v', rfl, ?_, ((Below.refl B w).alloc hB o).grown h2 (by simp; omega) fun k hk => (World.ownsRow.lt hO k hk).1, fun k s pos hi => (hi.alloc o).grown (hO.alloc o) h2⟩
  unfold OwnB
  rw [List.length_append, Lib.byteCells_append, Lib.byteCells_encodeRune, ← Lib.runeCells_length]
  exact h1
theorem quote_Right (s : ByteArray) (hs : s.size ≤ 9223372036854775807) (w : World) (hu : Utf w) : Calls Tryz.prog 33 #[.string s] w fun r w' => r = .returned (.bool (Lib.validD s.data.toList)) ∧ Below w.heap.size w w' := by
  go_enter Tryz.func33, Tryz.ntmps33
  go_wp2_with fail
  refine (Tryz.utf8_ValidString s _ hs hu).mono ?_
  rintro r w1 ⟨rfl, hb⟩
  go_wp2
  go_ret
  exact ⟨rfl, hb⟩
end Go.Proofs.YtbngjlkmpdccjaaGreatDoor
namespace Th
open Go Go.Lib
def letterC (c : UInt8) : Bool := decide (97 ≤ c.toNat ∧ c.toNat ≤ 122)
def numC (c : UInt8) : Bool := decide (48 ≤ c.toNat ∧ c.toNat ≤ 57) || decide (c.toNat = 43) || decide (c.toNat = 45) || decide (c.toNat = 46) || decide (c.toNat = 101) || decide (c.toNat = 69)
def blankC (c : UInt8) : Bool := decide (c.toNat = 32) || decide (c.toNat = 9) || decide (c.toNat = 10) || decide (c.toNat = 13)
def signC (c : UInt8) : Bool := decide (c.toNat = 123) || decide (c.toNat = 125) || decide (c.toNat = 91) || decide (c.toNat = 93) || decide (c.toNat = 58) || decide (c.toNat = 44)
def runB (p : UInt8 → Bool) : List UInt8 → Nat
  | [] => 0
  | c :: r => if p c = true then runB p r + 1 else 0
theorem runB_le (p : UInt8 → Bool) : ∀ l : List UInt8, runB p l ≤ l.length
  | [] => Nat.le_refl _
  | c :: r => by
    have := runB_le p r
    simp only [runB, List.length_cons]
    split <;> omega
theorem runB_in (p : UInt8 → Bool) : ∀ (l : List UInt8) (i : Nat) (h : i < l.length), i < runB p l → p l[i] = true
  | c :: r, 0, _, h => by
    simp only [runB] at h
    split at h
    · assumption
    · omega
  | c :: r, i + 1, h, hi => by
    simp only [runB] at hi
    split at hi
    · exact runB_in p r i (by simpa using h) (by omega)
    · omega
theorem runB_at (p : UInt8 → Bool) : ∀ (l : List UInt8) (h : runB p l < l.length), p l[runB p l] = false
  | [], h => by simp at h
  | c :: r, h => by
    by_cases hc : p c = true
    · have e : runB p (c :: r) = runB p r + 1 := by simp only [runB]; rw [if_pos hc]
      have := runB_at p r (by rw [e] at h; simpa using h)
      simp only [e, List.getElem_cons_succ]
      exact this
    · have e : runB p (c :: r) = 0 := by simp only [runB]; rw [if_neg hc]
      simp only [e, List.getElem_cons_zero]
      simpa using hc
theorem runB_stop (p : UInt8 → Bool) (l : List UInt8) (n : Nat) (hn : n ≤ l.length) (h1 : ∀ i (h : i < l.length), i < n → p l[i] = true) (h2 : n = l.length ∨ ∃ h : n < l.length, p l[n] = false) : runB p l = n := by
  rcases Nat.lt_trichotomy (runB p l) n with h | h | h
  · have := runB_at p l (by omega)
    rw [h1 _ _ h] at this; cases this
  · exact h
  · rcases h2 with h2 | ⟨hl, h2⟩
    · have := runB_le p l; omega
    · have := runB_in p l n hl h
      rw [this] at h2; cases h2
theorem index_num (c : UInt8) : decide (0 ≤ indexByte [48, 49, 50, 51, 52, 53, 54, 55, 56, 57, 43, 45, 46, 101, 69] c) = numC c := by
  have : ∀ n, n < 256 → decide (0 ≤ indexByte [48, 49, 50, 51, 52, 53, 54, 55, 56, 57, 43, 45, 46, 101, 69] (UInt8.ofNat n)) = numC (UInt8.ofNat n) := by decide +kernel
  have h := this c.toNat c.toNat_lt
  simpa using h
theorem index_sign (c : UInt8) : decide (0 ≤ indexByte [123, 125, 91, 93, 58, 44] c) = signC c := by
  have : ∀ n, n < 256 → decide (0 ≤ indexByte [123, 125, 91, 93, 58, 44] (UInt8.ofNat n)) = signC (UInt8.ofNat n) := by decide +kernel
  have h := this c.toNat c.toNat_lt
  simpa using h
def wordV (l : List UInt8) : Int × Nat × Int :=
  if l.take (runB letterC l) = [110, 117, 108, 108] then (0, runB letterC l, 0) else if l.take (runB letterC l) = [102, 97, 108, 115, 101] then (1, runB letterC l, 0)
  else if l.take (runB letterC l) = [116, 114, 117, 101] then (2, runB letterC l, 0) else (0, 0, 60)
structure Tk where
  sign : Nat
  k : Int
  m : Int
  x : Int
  s : ByteArray
  at_ : Nat
  to_ : Nat
  e : Int
def Tk.v (t : Tk) : JV := .mk t.k t.m t.x t.s [] []
def zeroJ : JV := .mk 0 0 0 ⟨#[]⟩ [] []
def oneT (l : List UInt8) (a : Nat) : Tk := match l with
  | [] => ⟨255, 0, 0, 0, ⟨#[]⟩, a, a, 0⟩
  | c :: r => if signC c = true then ⟨c.toNat, 0, 0, 0, ⟨#[]⟩, a, a + 1, 0⟩
    else if c.toNat = 34 then ⟨0, 4, 0, 0, ⟨(readQ (c :: r)).1.toArray⟩, a, a + (readQ (c :: r)).2.1, (readQ (c :: r)).2.2⟩
    else if letterC c = true then ⟨0, (wordV (c :: r)).1, 0, 0, ⟨#[]⟩, a, a + (wordV (c :: r)).2.1, (wordV (c :: r)).2.2⟩
    else if c.toNat = 45 ∨ (48 ≤ c.toNat ∧ c.toNat ≤ 57) then ⟨0, 3, (parseN ((c :: r).take (runB numC (c :: r)))).1.1, (parseN ((c :: r).take (runB numC (c :: r)))).1.2, ⟨#[]⟩, a, a + runB numC (c :: r), (parseN ((c :: r).take (runB numC (c :: r)))).2⟩
    else ⟨0, 0, 0, 0, ⟨#[]⟩, a, a, 60⟩
def nextT (l : List UInt8) (a : Nat) : Tk := oneT (l.drop (a + runB blankC (l.drop a))) (a + runB blankC (l.drop a))
end Th
