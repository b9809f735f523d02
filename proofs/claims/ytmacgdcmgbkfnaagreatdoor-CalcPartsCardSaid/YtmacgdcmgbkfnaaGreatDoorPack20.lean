/- Lemmas and contracts for the laws CalcParts, part 20 of 33: CalcJ. Conditions: those that each lemma names. -/
import Derived.Test.YtmacgdcmgbkfnaaGreatDoorPack7
import Derived.Test.YtmacgdcmgbkfnaaGreatDoorPack9
import Derived.Test.YtmacgdcmgbkfnaaGreatDoorPack10
import Derived.Test.YtmacgdcmgbkfnaaGreatDoorPack3
import Derived.Test.YtmacgdcmgbkfnaaGreatDoorPack1
import Derived.Test.YtmacgdcmgbkfnaaGreatDoorPack19
import Derived.Test.YtmacgdcmgbkfnaaGreatDoorPack14
import Derived.Test.YtmacgdcmgbkfnaaGreatDoorPack5
import Derived.StillTail
namespace Th
def JV.k : JV → Int | .mk k _ _ _ _ _ => k
def JV.m : JV → Int | .mk _ m _ _ _ _ => m
def JV.e : JV → Int | .mk _ _ e _ _ _ => e
def JV.s : JV → ByteArray | .mk _ _ _ s _ _ => s
end Th
namespace Go.Proofs.YtmacgdcmgbkfnaaGreatDoor
open Go Go.RowKit Go.Proofs Th
def digV (p : Int × Int) : JV := .mk 3 p.1 p.2 ⟨#[]⟩ [] []
def textV (s : ByteArray) : JV := .mk 4 0 0 s [] []
def listV (l : List JV) : JV := .mk 5 0 0 ⟨#[]⟩ l []
def doneJ (r : JV × Int) : JV × Int :=
  if r.2 ≠ 0 then (zeroJ, r.2) else if rightJ r.1 ≠ 0 then (zeroJ, rightJ r.1) else if 16384 < (printJ r.1).length then (zeroJ, 3) else r
end Go.Proofs.YtmacgdcmgbkfnaaGreatDoor
