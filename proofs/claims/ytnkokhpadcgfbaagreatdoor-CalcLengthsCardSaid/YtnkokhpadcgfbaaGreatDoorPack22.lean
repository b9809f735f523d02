/- Lemmas and contracts for the laws CalcLengths, part 22 of 37: CalcJ. Conditions: those that each lemma names. -/
import Derived.Test.YtnkokhpadcgfbaaGreatDoorPack7
import Derived.Test.YtnkokhpadcgfbaaGreatDoorPack11
import Derived.Test.YtnkokhpadcgfbaaGreatDoorPack12
import Derived.Test.YtnkokhpadcgfbaaGreatDoorPack3
import Derived.Test.YtnkokhpadcgfbaaGreatDoorPack1
import Derived.Test.YtnkokhpadcgfbaaGreatDoorPack21
import Derived.Test.YtnkokhpadcgfbaaGreatDoorPack16
import Derived.Lib.Split
import Derived.Lib.Join
import Derived.StillTail
namespace Th
def JV.k : JV → Int | .mk k _ _ _ _ _ => k
def JV.m : JV → Int | .mk _ m _ _ _ _ => m
def JV.e : JV → Int | .mk _ _ e _ _ _ => e
def JV.s : JV → ByteArray | .mk _ _ _ s _ _ => s
def JV.l : JV → List JV | .mk _ _ _ _ l _ => l
def JV.ks : JV → List ByteArray | .mk _ _ _ _ _ ks => ks
end Th
namespace Go.Proofs.YtnkokhpadcgfbaaGreatDoor
open Go Go.RowKit Go.Proofs Th
def digV (p : Int × Int) : JV := .mk 3 p.1 p.2 ⟨#[]⟩ [] []
def textV (s : ByteArray) : JV := .mk 4 0 0 s [] []
def listV (l : List JV) : JV := .mk 5 0 0 ⟨#[]⟩ l []
def doneJ (r : JV × Int) : JV × Int :=
  if r.2 ≠ 0 then (zeroJ, r.2) else if rightJ r.1 ≠ 0 then (zeroJ, rightJ r.1) else if 16384 < (printJ r.1).length then (zeroJ, 3) else r
def numsJ (f : Int → Int → Int → Int → (Int × Int) × Int) (a b : JV) : JV × Int :=
  if a.k ≠ 3 ∨ b.k ≠ 3 then (zeroJ, 80) else (digV (f a.m a.e b.m b.e).1, (f a.m a.e b.m b.e).2)
def addJ (a b : JV) : JV × Int :=
  if a.k = 0 then (b, 0) else if b.k = 0 then (a, 0)
  else if a.k = 4 ∧ b.k = 4 then (if 16384 < a.s.size + b.s.size then (zeroJ, 3) else (textV (a.s ++ b.s), 0))
  else if a.k = 5 ∧ b.k = 5 then (listV (a.l ++ b.l), 0)
  else if a.k = 6 ∧ b.k = 6 then makeJ (a.ks ++ b.ks) (a.l ++ b.l) else numsJ addN a b
end Go.Proofs.YtnkokhpadcgfbaaGreatDoor
