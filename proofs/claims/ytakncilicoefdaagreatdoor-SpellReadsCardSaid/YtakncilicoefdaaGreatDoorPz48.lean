/- Lemmas and contracts. Conditions: those that each lemma names. -/
import Derived.Test.YtakncilicoefdaaGreatDoorPz47
set_option maxRecDepth 100000
set_option maxHeartbeats 8000000
namespace Go.Proofs.YtakncilicoefdaaGreatDoor
open Go Go.RowKit Go.Proofs Th
set_option maxRecDepth 8000
attribute [local go_sem] sel
attribute [local go_sem] Ah ByteArray.size_append bsz eap ape
variable {G : World → CS → Prop}
theorem Hn (s : ByteArray) (hs : s.size ≤ 500) : (∃ (a e : Nat), e ≠ 0 ∧ ACalls Tryz.prog GY 15 none [sI s] (.ret (.tup [.agg (Al EA), iI a, iI e]) [])) ∨
  ∃ n, ACalls Tryz.prog GY 15 none [sI s] (.ret (.tup [.agg (Al n), iI 0, iI 0]) []) ∧ ReadN n := by
 obtain ⟨n, a, e, c, hp⟩ := Us s (by omega); have c := c.weak fun _ _ h => GY.gx h
 rcases hp.cases with ⟨he, rfl, _⟩ | ⟨hf, hd, rfl, rfl⟩
 ·exact .inl ⟨a, e, he, c⟩
 exact .inr ⟨n, c, UN (by rw [C7]; exact hs) hf hd⟩
theorem SY (a b : ByteArray) : ACalls Tryz.prog GY 6 none [sI a, sI b] (.ret (bI true) []) := by
 have gk := gkY; have cw := Ql; by_cases h1 : (500 : Int) < (a.size : Int)
 ·clear gk
  have gk := gkY; refine ACalls.enter Tryz.func6 rfl rfl gk Tryz.ntmps6 fun X F => ?_
  apply Ar F; go_simp; apply Ar F; go_simp; refine ⟨_, cw, ?_⟩; go_simp; (repeat apply Aq); refine Af (by go_simp) ?_; apply As; go_simp; apply Ar F; go_simp; (repeat apply Aq); refine At (by go_simp) ?_; apply Ar F; go_simp; apply Au; go_simp
 by_cases h2 : (500 : Int) < (b.size : Int)
 ·refine ACalls.enter Tryz.func6 rfl rfl gk Tryz.ntmps6 fun X F => ?_
  apply Ar F; go_simp; apply Ar F; go_simp; refine ⟨_, cw, ?_⟩; go_simp; (repeat apply Aq); refine Af (by go_simp) ?_; apply As; go_simp; apply Ar F; go_simp; (repeat apply Aq); refine At (by go_simp) ?_; apply Ar F; go_simp; apply Au; go_simp
 rcases Hn a (by omega) with ⟨xa, ea, na, ca⟩ | ⟨n, ca, hn⟩
 ·have na : ¬ (ea : Int) = 0 := by omega
  rcases Hn b (by omega) with ⟨xb, eb, nb, cb⟩ | ⟨m, cb, hm⟩
  ·have nb : ¬ (eb : Int) = 0 := by omega
   obtain ⟨k1, t1, m1, q1, l1, b1⟩ := EA; refine ACalls.enter Tryz.func6 rfl rfl gk Tryz.ntmps6 fun X F => ?_
   apply Ar F;go_simp;apply Ar F;go_simp;refine ⟨_, cw, ?_⟩;(iterate 2 go_simp;(repeat apply Aq);refine Af (by go_simp) ?_;apply As;go_simp;apply Ar F);go_simp;refine ⟨_, ca, ?_⟩;go_simp;apply Ar F;go_simp;refine ⟨_, cb, ?_⟩;go_simp;(repeat apply Aq);refine AA F [0, 1, 2, 3] [4, 5, 6, 7, 8, 9, 10, 11, 12, 13, 14, 15] (by rfl) ?_;go_simp;apply lK 7;go_simp;refine Ap ?_;go_simp;(repeat apply Aq);refine Af (by go_simp) ?_;apply As;go_simp;apply Ar F;go_simp;(repeat apply Aq);refine At (by go_simp) ?_;apply Ar F;go_simp;apply Au;go_simp
  have crb := hm.right; obtain ⟨k1, t1, m1, q1, l1, b1⟩ := EA; obtain ⟨k2, t2, m2, q2, l2, b2⟩ := m; refine ACalls.enter Tryz.func6 rfl rfl gk Tryz.ntmps6 fun X F => ?_
  apply Ar F;go_simp;apply Ar F;go_simp;refine ⟨_, cw, ?_⟩;(iterate 2 go_simp;(repeat apply Aq);refine Af (by go_simp) ?_;apply As;go_simp;apply Ar F);go_simp;refine ⟨_, ca, ?_⟩;go_simp;apply Ar F;go_simp;refine ⟨_, cb, ?_⟩;go_simp;(repeat apply Aq);refine AA F [0, 1, 2, 3] [4, 5, 6, 7, 8, 9, 10, 11, 12, 13, 14, 15] (by rfl) ?_;go_simp;apply lK 7;go_simp;refine Ap ?_;go_simp;refine ⟨_, crb, ?_⟩;go_simp;(repeat apply Aq);refine Af (by go_simp) ?_;apply As;go_simp;apply Ar F;go_simp;(repeat apply Aq);refine At (by go_simp) ?_;apply Ar F;go_simp;apply Au;go_simp
 have cra := hn.right; rcases Hn b (by omega) with ⟨xb, eb, nb, cb⟩ | ⟨m, cb, hm⟩
 ·have nb : ¬ (eb : Int) = 0 := by omega
  obtain ⟨k1, t1, m1, q1, l1, b1⟩ := EA; obtain ⟨k2, t2, m2, q2, l2, b2⟩ := n; refine ACalls.enter Tryz.func6 rfl rfl gk Tryz.ntmps6 fun X F => ?_
  apply Ar F;go_simp;apply Ar F;go_simp;refine ⟨_, cw, ?_⟩;(iterate 2 go_simp;(repeat apply Aq);refine Af (by go_simp) ?_;apply As;go_simp;apply Ar F);go_simp;refine ⟨_, ca, ?_⟩;go_simp;apply Ar F;go_simp;refine ⟨_, cb, ?_⟩;go_simp;(repeat apply Aq);refine AA F [0, 1, 2, 3] [4, 5, 6, 7, 8, 9, 10, 11, 12, 13, 14, 15] (by rfl) ?_;go_simp;apply lK 7;go_simp;refine ⟨_, cra, ?_⟩;go_simp;refine Ap ?_;go_simp;(repeat apply Aq);refine Af (by go_simp) ?_;apply As;go_simp;apply Ar F;go_simp;(repeat apply Aq);refine At (by go_simp) ?_;apply Ar F;go_simp;apply Au;go_simp
 have crb := hm.right; have cpa := hn.print; have cpb := hm.print; have cs := Rw gkY (AB n) n (Nat.le_refl _) m; have key : (spJ n = spJ m ∧ C9 n m = true) ∨ (¬ spJ n = spJ m ∧ C9 n m = false) := RZ hn hm; generalize C9 n m = z at *; generalize spJ n = u at *; generalize spJ m = v at *; obtain ⟨k1, t1, m1, q1, l1, b1⟩ := n; obtain ⟨k2, t2, m2, q2, l2, b2⟩ := m; rcases key with ⟨rfl, rfl⟩ | ⟨hne, rfl⟩
 ·refine ACalls.enter Tryz.func6 rfl rfl gk Tryz.ntmps6 fun X F => ?_
  apply Ar F;go_simp;apply Ar F;go_simp;refine ⟨_, cw, ?_⟩;(iterate 2 go_simp;(repeat apply Aq);refine Af (by go_simp) ?_;apply As;go_simp;apply Ar F);go_simp;refine ⟨_, ca, ?_⟩;go_simp;apply Ar F;go_simp;refine ⟨_, cb, ?_⟩;go_simp;(repeat apply Aq);refine AA F [0, 1, 2, 3] [4, 5, 6, 7, 8, 9, 10, 11, 12, 13, 14, 15] (by rfl) ?_;go_simp;apply lK 7;go_simp;refine ⟨_, cra, ?_⟩;go_simp;refine Ap ?_;go_simp;refine ⟨_, crb, ?_⟩;(iterate 2 go_simp;(repeat apply Aq);refine Af (by go_simp) ?_;apply As;go_simp;apply Ar F);go_simp;refine ⟨_, cpa, ?_⟩;go_simp;apply Ar F;go_simp;refine ⟨_, cpb, ?_⟩;go_simp;(repeat apply Aq);refine AA F [0, 1, 2, 3, 4, 5] [6, 7, 8, 9, 10, 11, 12, 13, 14, 15] (by rfl) ?_;go_simp;apply lK 6;go_simp;refine Ap ?_;go_simp;refine ⟨_, cs, ?_⟩;go_simp;apply Au;go_simp
 refine ACalls.enter Tryz.func6 rfl rfl gk Tryz.ntmps6 fun X F => ?_
 apply Ar F;go_simp;apply Ar F;go_simp;refine ⟨_, cw, ?_⟩;(iterate 2 go_simp;(repeat apply Aq);refine Af (by go_simp) ?_;apply As;go_simp;apply Ar F);go_simp;refine ⟨_, ca, ?_⟩;go_simp;apply Ar F;go_simp;refine ⟨_, cb, ?_⟩;go_simp;(repeat apply Aq);refine AA F [0, 1, 2, 3] [4, 5, 6, 7, 8, 9, 10, 11, 12, 13, 14, 15] (by rfl) ?_;go_simp;apply lK 7;go_simp;refine ⟨_, cra, ?_⟩;go_simp;refine Ap ?_;go_simp;refine ⟨_, crb, ?_⟩;(iterate 2 go_simp;(repeat apply Aq);refine Af (by go_simp) ?_;apply As;go_simp;apply Ar F);go_simp;refine ⟨_, cpa, ?_⟩;go_simp;apply Ar F;go_simp;refine ⟨_, cpb, ?_⟩;go_simp;(repeat apply Aq);refine AA F [0, 1, 2, 3, 4, 5] [6, 7, 8, 9, 10, 11, 12, 13, 14, 15] (by rfl) ?_;go_simp;apply lK 6;go_simp;refine Ap ?_;go_simp;refine ⟨_, cs, ?_⟩;go_simp;apply Au;go_simp
end Go.Proofs.YtakncilicoefdaaGreatDoor
