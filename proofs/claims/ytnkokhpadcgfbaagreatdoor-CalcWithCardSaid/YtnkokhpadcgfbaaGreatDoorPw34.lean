/- Lemmas and contracts for the laws CalcWith, part 34 of 50: CalcO. Conditions: those that each lemma names. -/
import Derived.Test.YtnkokhpadcgfbaaGreatDoorPw33
namespace Go.Proofs.YtnkokhpadcgfbaaGreatDoor
open Go Go.RowKit Go.Proofs Th
attribute [local go_sem] Above.cell
structure OpS (w W : World) (cs cs2 : List Value) : Prop where
  x : Box W w.heap.size cs
  y : Box W (w.heap.size + 1) cs2
  r : Box W (w.heap.size + 2) zero6
  b : Below w.heap.size w W
theorem OpS.below {w W W' : World} {cs cs2 : List Value} (h : OpS w W cs cs2) (hb : Below W.heap.size W W') : OpS w W' cs cs2 := ⟨h.x.below hb h.x.lt, h.y.below hb h.y.lt, h.r.below hb h.r.lt, up h.b hb⟩
theorem OpS.new (w : World) (k m e : Int) (s : ByteArray) (A : Option Addr) (n c : Nat) (A' : Option Addr) (n' c' : Nat) (k2 m2 e2 : Int) (s2 : ByteArray) (B : Option Addr) (n2 d : Nat) (B' : Option Addr) (n2' d' : Nat) (t t2 t3 : TypeId) :
    OpS w (((w.alloc (.cells #[.int .i64 k, .int .i64 m, .int .i64 e, .string s, .slice A n c, .slice A' n' c'] t)).alloc (.cells #[.int .i64 k2, .int .i64 m2, .int .i64 e2, .string s2, .slice B n2 d, .slice B' n2' d'] t2)).alloc (.cells #[.int .i64 0, .int .i64 0, .int .i64 0, .string ⟨#[]⟩, .slice none 0 0, .slice none 0 0] t3))
      (cells6 k m e s A n c A' n' c') (cells6 k2 m2 e2 s2 B n2 d B' n2' d') :=
  ⟨((Box.new (cells6 k m e s A n c A' n' c') t rfl).alloc _).alloc _, (Box.new (cells6 k2 m2 e2 s2 B n2 d B' n2' d') t2 (by simp)).alloc _, Box.new zero6 t3 (by simp), al3 _ _ _ _⟩
def OpPost (w : World) (r : Ending) (w' : World) (p : JV × Int) : Prop := ∃ cs', r = .returned (.tuple #[.agg (List.toArray cs'), .int .i64 p.2]) ∧ JIn w' (newIn w w') p.1 cs' ∧ Below w.heap.size w w'
theorem six_in {W : World} {g : Nat} {t : JV} {cs : List Value} {S : Nat → Prop} (a0 a1 a2 a3 a4 a5 : Value) (h : JIn W S t cs) (hg : ¬ S g) : JIn (six W g a0 a1 a2 a3 a4 a5) S t cs :=
  h.keep (fun p hp => six_other W g _ _ _ _ _ _ p (fun e => hg (e ▸ hp))) (fun _ h => h)
theorem calc_truth2 (b : Bool) (w : World) : Calls Tryz.prog 31 #[.bool b] w fun r w' => ∃ q : Int, r = .returned (.agg #[.int .i64 q, .int .i64 0, .int .i64 0, .string ⟨#[]⟩, .slice none 0 0, .slice none 0 0]) ∧ Keep (∀ W S, JIn W S (truthV b) (cells6 q 0 0 ⟨#[]⟩ none 0 0 none 0 0)) ∧ Below w.heap.size w w' :=
  (calc_truth b w).mono fun _ _ ⟨h, hb⟩ => ⟨_, h, ⟨fun W S => truth_in W S b⟩, hb⟩
theorem six_size (W : World) (g : Nat) (a0 a1 a2 a3 a4 a5 : Value) : (six W g a0 a1 a2 a3 a4 a5).heap.size = W.heap.size := by simp [six]
end Go.Proofs.YtnkokhpadcgfbaaGreatDoor
