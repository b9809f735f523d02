/- Lemmas and contracts for the laws CalcWith, part 20 of 50: CalcMath, RefSum. Conditions: those that each lemma names. -/
import Derived.Test.YtnkokhpadcgfbaaGreatDoorPw4
import Derived.Test.YtnkokhpadcgfbaaGreatDoorPw18
import Derived.Test.YtnkokhpadcgfbaaGreatDoorPw15
import Derived.Test.YtnkokhpadcgfbaaGreatDoorPw12
import Derived.Deep.OwnRows
import Derived.Laws.OwnMore
import Derived.Deep.RegionHeld3
namespace Go.Proofs.YtnkokhpadcgfbaaGreatDoor
open Go Go.Lib Th
def cmpK : List ByteArray → List ByteArray → Int
  | [], [] => 0
  | [], _ :: _ => -1
  | _ :: _, [] => 1
  | a :: l, b :: r => if compareBytes a.data.toList b.data.toList ≠ 0 then compareBytes a.data.toList b.data.toList else cmpK l r
mutual
/-- the order of two values that may be -/
def cmpJ : JV → JV → Int
  | .mk k m e s l ks, .mk k' m' e' s' l' ks' =>
    if k ≠ k' then compareInt k k' else if k = 3 then (cmpN m e m' e').1 else if k = 4 then compareBytes s.data.toList s'.data.toList
    else if k = 6 ∧ cmpK ks ks' ≠ 0 then cmpK ks ks' else cmpV l l'
def cmpV : List JV → List JV → Int
  | [], [] => 0
  | [], _ :: _ => -1
  | _ :: _, [] => 1
  | a :: l, b :: r => if cmpJ a b ≠ 0 then cmpJ a b else cmpV l r
end
theorem ba_of {a b : ByteArray} (h : a.data.toList = b.data.toList) : a = b := by
  cases a; cases b; simp at h; exact congrArg _ h
structure OkF (k m e : Int) (s : ByteArray) (l : List JV) (ks : List ByteArray) : Prop where
  kk : 0 ≤ k ∧ k ≤ 6
  nn : k ≠ 3 → m = 0 ∧ e = 0
  ss : k ≠ 4 → s = ⟨#[]⟩
  ll : k < 5 → l = []
  kks : k ≠ 6 → ks = []
  six : k = 6 → ks.length = l.length
  rr : right m e = true
  tt : validD s.data.toList = true
  rise : riseK ks = true
theorem ba_none {s : ByteArray} (h : s.size = 0) : s = ⟨#[]⟩ := ba_of (by
  have : s.data.toList.length = 0 := h
  simpa using List.length_eq_zero_iff.1 this)
theorem okF_of {k m e : Int} {s : ByteArray} {l : List JV} {ks : List ByteArray} (h : okOne (.mk k m e s l ks) = true) : OkF k m e s l ks := by
  simp only [okOne, Bool.and_eq_true, Bool.or_eq_true, decide_eq_true_eq] at h
  obtain ⟨⟨⟨⟨⟨⟨⟨⟨h1, h2⟩, h3⟩, h4⟩, h5⟩, h6⟩, h7⟩, h8⟩, h9⟩ := h
  exact ⟨h1, fun h => h2.resolve_left h, fun h => ba_none (h3.resolve_left h), fun h => List.length_eq_zero_iff.1 (h4.resolve_left (by omega)), fun h => List.length_eq_zero_iff.1 (h5.resolve_left h), fun h => h6.resolve_left (fun h' => h' h), h7, h8, h9⟩
end Go.Proofs.YtnkokhpadcgfbaaGreatDoor
namespace Go.Proofs.YtnkokhpadcgfbaaGreatDoor
open Go Go.RowKit Go.Proofs Th
end Go.Proofs.YtnkokhpadcgfbaaGreatDoor
namespace Go.Proofs.YtnkokhpadcgfbaaGreatDoor
open Go Go.RowKit Go.Proofs Th
attribute [local go_sem] Above.cell
theorem long_at (m e : Int) (hm : I64 m) (w : World) :
    Calls Tryz.prog 147 #[.agg #[.int .i64 m, .int .i64 e]] w fun r w' => ∃ A c, r = .returned (.agg #[.bool (decide (m < 0)), .slice A (digs m.natAbs).length c, .int .i64 e]) ∧ IntsAt w' w'.heap.size A c (digs m.natAbs) ∧ Below w.heap.size w w' := ref_long m e hm w
end Go.Proofs.YtnkokhpadcgfbaaGreatDoor
