/- Plain law on JSON's tokens: their numbers are a machine's. No conditions. -/
import Derived.Test.YtohhnkmfgfgpjaaGreatDoorParseMath
import Derived.Test.YtohhnkmfgfgpjaaGreatDoorVal
namespace Go.Proofs.YtohhnkmfgfgpjaaGreatDoor
open Go Go.RowKit Go.Proofs Th Go.Lib
theorem fin_i64 (neg : Bool) (m : Nat) (e : Int) : I64 (fin neg m e).1.1 ∧ I64 (fin neg m e).1.2 := by
  unfold fin
  split
  · exact ⟨⟨by decide, by decide⟩, ⟨by decide, by decide⟩⟩
  · rename_i h
    refine ⟨⟨?_, ?_⟩, ⟨?_, ?_⟩⟩ <;> cases neg <;> simp <;> omega
theorem core_i64 (neg : Bool) (u : List UInt8) : I64 (coreN neg u).1.1 ∧ I64 (coreN neg u).1.2 := by
  unfold coreN
  split
  · exact ⟨⟨by decide, by decide⟩, ⟨by decide, by decide⟩⟩
  · unfold norm
    split
    · exact ⟨⟨by decide, by decide⟩, ⟨by decide, by decide⟩⟩
    · exact fin_i64 _ _ _
theorem parse_i64 (l : List UInt8) : I64 (parseN l).1.1 ∧ I64 (parseN l).1.2 := by
  unfold parseN
  split <;> exact core_i64 _ _
theorem small_i64 {k : Int} (h : 0 ≤ k ∧ k ≤ 6) : I64 k := ⟨by omega, by omega⟩
theorem tok_i64 (l : List UInt8) (a : Nat) : I64 (nextT l a).k ∧ I64 (nextT l a).m ∧ I64 (nextT l a).x := by
  have h0 : I64 0 := small_i64 (by omega)
  unfold nextT
  generalize a + runB blankC (l.drop a) = b
  generalize l.drop b = m
  cases m with
  | nil => exact ⟨h0, h0, h0⟩
  | cons c r =>
    simp only [oneT]
    split
    · exact ⟨h0, h0, h0⟩
    split
    · exact ⟨small_i64 (by simp), h0, h0⟩
    split
    · refine ⟨small_i64 ?_, h0, h0⟩
      show 0 ≤ (wordV (c :: r)).1 ∧ (wordV (c :: r)).1 ≤ 6
      unfold wordV
      repeat' split
      all_goals simp
    split
    · exact ⟨small_i64 (by simp), (parse_i64 _).1, (parse_i64 _).2⟩
    · exact ⟨h0, h0, h0⟩
end Go.Proofs.YtohhnkmfgfgpjaaGreatDoor
