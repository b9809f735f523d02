/- Lemmas and contracts. Conditions: those that each lemma names. -/
import Derived.Test.YtakncilicoefdaaGreatDoorPc29
set_option maxRecDepth 100000
set_option maxHeartbeats 4000000
namespace Go.Proofs.YtakncilicoefdaaGreatDoor
open Go Go.RowKit Go.Proofs Th
variable {G : World → CS → Prop}
theorem syn_all (gk : GK G) (hNum : NumP G) (hSc : ScanP G) (hPt : PartsP G) (hQ : QuoteP G) : ∀ f, IHP G f := by
 intro f; induction f with
 | zero =>
  intro g hg E hE job i r h; obtain rfl : g = 0 := by omega
  cases h
 | succ f ih =>
  intro g hg E hE job i r h; rcases Nat.lt_or_ge f g with h1 | h1
  ·obtain rfl : g = f + 1 := by omega
   simp only [runP] at h; cases job with
   | filter => exact syn_filter gk f ih E hE i r h
   | def_ => exact syn_def gk f ih E hE i r h
   | binary least => exact syn_binary gk f ih E hE i least r h
   | minus => exact syn_minus gk f ih E hE i r h
   | term => exact syn_term gk f ih E hE i r h
   | index x => exact syn_index gk f ih E hE i x r h
   | quoted => exact syn_quoted gk f ih E hE i hSc hPt hQ r h
   | whole => exact syn_whole gk f ih E hE i r h
   | first => exact syn_first gk f ih E hE i hNum r h
   | sign s => exact fun hi => syn_sign gk f ih E hE i s hi r h
   | object => exact syn_object gk f ih E hE i r h
   | entry => exact syn_entry gk f ih E hE i r h
   | word s => exact fun hi => syn_word gk f ih E hE i s hi r h
   | branch => exact syn_branch gk f ih E hE i r h
   | loop k => exact syn_loop gk f ih E hE i k r h
   | binLoop _ _ _ => trivial
   | termLoop _ => trivial
   | parts _ _ _ _ => trivial
   | objLoop _ => trivial
   | callLoop _ _ => trivial
  exact ih g h1 E hE job i r h
end Go.Proofs.YtakncilicoefdaaGreatDoor
