/- The chapter's examples, by the plain laws. No conditions. -/
import Derived.Test.YtljemfajjeoecaaDoorParseC
import Derived.Test.YtljemfajjeoecaaDoorPrint
import Derived.Test.YtljemfajjeoecaaDoorCmp
import Derived.Test.YtljemfajjeoecaaDoorDivN
namespace Go.Proofs.YtljemfajjeoecaaDoor
open Go Go.RowKit Go.Proofs Th

theorem works_parse : parseN [49, 50, 48, 48, 101, 45, 51] = ((12, -1), 0) := by decide
theorem works_print : printN 12 (-1) = ([49, 46, 50], 0) := by
  have h : Lib.decDigits (12 : Int).natAbs = [49, 50] := by rw [show (12 : Int).natAbs = 12 by rfl, Lib.decDigits_two (by omega) (by omega)]; rfl
  have hn : nd 12 = 2 := by unfold nd; rw [show (12 : Int).natAbs = 12 by rfl, Lib.nDigits_big (by omega), Lib.nDigits_small (by omega)]
  have hp : pad 12 (-1) = [49, 50] := by unfold pad; rw [hn, h]; decide
  unfold printN textN
  rw [if_pos (by decide), hn, hp]
  decide
theorem works_add : addN 999999999999999999 0 1 0 = ((1, 18), 0) := by
  have h : addN 999999999999999999 0 1 0 = norm false (1 * 10 ^ 18) 0 := by decide
  rw [h, norm_of _ _ _ _ (by decide)]; decide
theorem works_div8 : divN 1 0 8 0 = ((125, -3), 0) := by
  have h : divR 1 8 false 0 = norm false (125 * 10 ^ 97) (-100) := by
    unfold divR
    rw [if_pos (by decide)]; rfl
  have h2 : divN 1 0 8 0 = divR 1 8 false 0 := by unfold divN; rw [if_neg (by decide)]; rfl
  rw [h2, h, norm_shift, norm_fin _ _ _ (by decide)]; decide
theorem works_div3 : divN 1 0 3 0 = ((0, 0), 11) := by
  have h2 : divN 1 0 3 0 = divR 1 3 false 0 := by unfold divN; rw [if_neg (by decide)]; rfl
  rw [h2]; unfold divR
  rw [if_neg (by decide)]
end Go.Proofs.YtljemfajjeoecaaDoor
