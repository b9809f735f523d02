/- Lemmas and contracts. Conditions: those that each lemma names. -/
import Derived.Test.YtakncilicoefdaaGreatDoorPz31
set_option maxRecDepth 100000
set_option maxHeartbeats 4000000
namespace Go.Proofs.YtakncilicoefdaaGreatDoor
open Go Go.RowKit Go.Proofs Th
variable {G : World → CS → Prop}
theorem Yf (gk : GK G) (hNum : Vu G) (hSc : LO G) (hPt : Qh G) (hQ : O4 G) : ∀ f, IHP G f := by
 intro f; induction f with
 | zero =>
  intro g hg E hE job i r h; obtain rfl : g = 0 := by omega
  cases h
 | succ f ih =>
  intro g hg E hE job i r h; rcases Nat.lt_or_ge f g with h1 | h1
  ·obtain rfl : g = f + 1 := by omega
   simp only [AY] at h; cases job with
   | filter => exact SN gk f ih E hE i r h
   | def_ => exact Yl gk f ih E hE i r h
   | binary least => exact RF gk f ih E hE i least r h
   | minus => exact TB gk f ih E hE i r h
   | term => exact Vo gk f ih E hE i r h
   | index x => exact UD gk f ih E hE i x r h
   | quoted => exact R4 gk f ih E hE i hSc hPt hQ r h
   | whole => exact TX gk f ih E hE i r h
   | first => exact UX gk f ih E hE i hNum r h
   | sign s => exact fun hi => VT gk f ih E hE i s hi r h
   | object => exact Sv gk f ih E hE i r h
   | entry => exact Tn gk f ih E hE i r h
   | word s => exact fun hi => WQ gk f ih E hE i s hi r h
   | branch => exact Sc gk f ih E hE i r h
   | loop k => exact Wf gk f ih E hE i k r h
   | binLoop _ _ _ => trivial
   | termLoop _ => trivial
   | parts _ _ _ _ => trivial
   | objLoop _ => trivial
   | callLoop _ _ => trivial
  exact ih g h1 E hE job i r h
end Go.Proofs.YtakncilicoefdaaGreatDoor
