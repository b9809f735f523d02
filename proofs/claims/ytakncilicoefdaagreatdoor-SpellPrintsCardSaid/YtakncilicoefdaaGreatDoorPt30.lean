/- Lemmas and contracts. Conditions: those that each lemma names. -/
import Derived.Test.YtakncilicoefdaaGreatDoorPt29
set_option maxRecDepth 100000
set_option maxHeartbeats 4000000
namespace Go.Proofs.YtakncilicoefdaaGreatDoor
open Go Go.RowKit Go.Proofs Th
variable {G : World → CS → Prop}
theorem UE (gk : GK G) (hNum : Tq G) : ∀ f, IHP G f := by
 intro f; induction f with
 | zero =>
  intro g hg E hE job i r h; obtain rfl : g = 0 := by omega
  cases h
 | succ f ih =>
  intro g hg E hE job i r h; rcases Nat.lt_or_ge f g with h1 | h1
  ·obtain rfl : g = f + 1 := by omega
   simp only [BO] at h; cases job with
   | filter => exact PJ gk f ih E hE i r h
   | def_ => trivial
   | binary least => exact PY gk f ih E hE i least r h
   | minus => exact RI gk f ih E hE i r h
   | term => exact SJ gk f ih E hE i r h
   | index _ => trivial
   | quoted => trivial
   | whole => exact Q4 gk f ih E hE i r h
   | first => exact QH gk f ih E hE i hNum r h
   | sign s => exact fun hi => SZ gk f ih E hE i s hi r h
   | object => exact Qa gk f ih E hE i r h
   | entry => exact Rt gk f ih E hE i r h
   | word s => exact fun hi => T3 gk f ih E hE i s hi r h
   | branch => trivial
   | loop _ => trivial
   | binLoop _ _ _ => trivial
   | termLoop _ => trivial
   | parts _ _ _ _ => trivial
   | objLoop _ => trivial
   | callLoop _ _ => trivial
  exact ih g h1 E hE job i r h
end Go.Proofs.YtakncilicoefdaaGreatDoor
