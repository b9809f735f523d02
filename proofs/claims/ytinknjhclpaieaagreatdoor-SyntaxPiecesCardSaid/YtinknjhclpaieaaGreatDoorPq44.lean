/- Lemmas and contracts for the laws SyntaxPieces, part 44 of 48: R10Q. Conditions: those that each lemma names. -/
import Derived.Test.YtinknjhclpaieaaGreatDoorPq43
import Derived.Test.YtinknjhclpaieaaGreatDoorPq19
set_option maxRecDepth 100000
set_option maxHeartbeats 4000000
namespace Go.Proofs.YtinknjhclpaieaaGreatDoor
open Go Go.RowKit Go.Proofs Th
set_option maxRecDepth 8000
attribute [local go_sem] aops aopsD stepA chkD disj aguard isWant aop aval abuil acall acallP acallR argsIV valOf aput startS mkS numb look upd toIV allIV zeroFV aload setSeg afill aelems cellsOf toSl toVal valsOf aidx abin ainR FV.ok IV.one IV.er IV.erA IV.er1 iI sI bI nodeIV nodesIV tokIV parIV faultV resP lift AThen ABlock AEnd resL resV rload rcOf imsOf oneV nodeJ kidsJ strJ knownJ selfJ noNJ noTf foot owns pruneS filtF filtO Value.oneCell'
attribute [local go_sem] ti_node ti_tok ti_par ti_fault ti_nodes ti_toks ti_strs ti_ints ti_str ti_int ti_num ti_errno
attribute [local go_sem] rdrIV ti_rdr St.next sel
attribute [local go_sem] resR zeroN nodesIV_append nodesIV_len kidC rowC nodeF
theorem rparse_scan (s : ByteArray) (hs : s.size ≤ 50000) (he : (scanF (toL s)).2.2 ≠ 0) : ACalls Tryz.prog GX 7 none [sI s] (.ret (.tup [.agg (nodeIV noNJ), iI (scanF (toL s)).2.1, iI (scanF (toL s)).2.2]) []) := by
  have gk := gkX; have cs := rscanX s hs; obtain ⟨⟨l, x, ee⟩, hq⟩ : ∃ q, scanF (toL s) = q := ⟨_, rfl⟩
  rw [hq] at cs he ⊢; dsimp only at cs he ⊢; have he2 : ¬ (ee : Int) = 0 := by omega
  clear hq; refine ACalls.enter Tryz.func7 rfl rfl gk Tryz.ntmps7 fun X F => ?_
  apply Ar F; go_simp; apply Ar F; go_simp; refine ⟨_, cs, ?_⟩; go_simp; apply Ar F; go_simp; (repeat apply Aq); refine At (by go_simp) ?_; apply Ar F; go_simp; apply Au; go_simp
def resU (n : NJ) (own : St) : List IV := if own.err ≠ 0 then [.agg (nodeIV noNJ), iI own.at_, iI own.err] else if 48 < depJ n then [.agg (nodeIV noNJ), iI 0, iI 31] else [.agg (nodeIV n), iI 0, iI 0]
theorem rparse_go (s : ByteArray) (hs : s.size ≤ 50000) (he : (scanF (toL s)).2.2 = 0) (f : Nat) (hf : f ≤ 100000000) (n : NJ) (own : St) (h : runR f (envOf (toL s) 0) .whole ⟨0, 0, 0⟩ = some (n, own)) : ACalls Tryz.prog GX 7 none [sI s] (.ret (.tup (resU n own)) []) := by
  have gk := gkX; have cs := rscanX s hs; have cw := r_own f (r_go f hf) s 0 0 0 hs (by omega) f (Nr f) n own h; have hd := dep_run f _ .whole _ n own h; have hdn : depJ n ≤ 4000000000000000000 := by
    have h2 : f * f ≤ 100000000 * 100000000 := Nat.mul_le_mul hf hf; simp only [bndJ, jdep] at hd; omega
  have cd := r_Depth gkX 4000000000000000000 (Nr _) n hdn; obtain ⟨dn, hdn2⟩ : ∃ dn, depJ n = dn := ⟨_, rfl⟩
  obtain ⟨R, hR⟩ : ∃ R, resU n own = R := ⟨_, rfl⟩
  rw [hR]; unfold resU at hR; rw [hdn2] at cd hR; rw [show ((0 : Nat) : Int) + ((0 : Nat) : Int) + ((0 : Nat) : Int) = 0 from rfl] at cw; clear h hd hdn hdn2; obtain ⟨⟨l, x, ee⟩, hq⟩ : ∃ q, scanF (toL s) = q := ⟨_, rfl⟩
  unfold envOf at cw; rw [hq] at cs he cw; dsimp only at cs he cw; subst he; clear hq; obtain ⟨k1, t1, m1, q1, l1, b1⟩ := n; obtain ⟨oi, oe, oa⟩ := own; dsimp only at hR; refine ACalls.enter Tryz.func7 rfl rfl gk Tryz.ntmps7 fun X F => ?_
  apply Ar F; go_simp; apply Ar F; go_simp; refine ⟨_, cs, ?_⟩; go_simp; apply Ar F; go_simp; (repeat apply Aq); refine Af (by go_simp) ?_; apply As; go_simp; apply Ar F; go_simp; apply Ar F; go_simp; refine ⟨_, cw, ?_⟩; go_simp; by_cases w1 : oe ≠ 0
  · rw [if_pos w1] at hR
    subst hR; have w1I : ¬ (oe : Int) = 0 := by omega
    apply Ar F; go_simp; (repeat apply Aq); refine At (by go_simp) ?_; (repeat apply Aq); refine Ad F [0, 1, 2, 3, 4, 5, 6, 7, 8, 9, 10, 11] [(4, 9), (8, 9)] mixed (by kernel_rfl) ?_; go_simp; apply Au; go_simp
  rw [if_neg w1] at hR; obtain rfl : oe = 0 := Dn w1; apply Ar F; go_simp; (repeat apply Aq); refine Af (by go_simp) ?_; apply As; go_simp; apply Ar F; go_simp; refine ⟨_, cd, ?_⟩; go_simp; by_cases w2 : 48 < dn
  · rw [if_pos w2] at hR
    subst hR; have w2I : (48 : Int) < (dn : Int) := by omega
    (repeat apply Aq); refine At (by go_simp) ?_; apply Ar F; go_simp; apply Au; go_simp
  rw [if_neg w2] at hR; subst hR; have w2I : ¬ (48 : Int) < (dn : Int) := by omega
  (repeat apply Aq); refine Af (by go_simp) ?_; apply As; go_simp; apply Ar F; go_simp; apply Au; go_simp
theorem deps_le {k : Nat} : ∀ {l : List NJ}, depsJ l ≤ k ↔ ∀ y ∈ l, depJ y ≤ k
  | [] => by simp [depsJ]
  | a :: r => by
    rw [depsJ, Nat.max_le, deps_le (l := r)]; simp
theorem sh_dep : ∀ (k : Nat) (x : NJ), shJ k x = true ↔ depJ x ≤ k
  | 0, .mk _ _ _ _ l _ => by rw [shJ, depJ]; constructor <;> intro h <;> first | cases h | omega
  | k + 1, .mk _ _ _ _ l _ => by
    rw [shJ, depJ, List.all_eq_true]; have := deps_le (k := k) (l := l); constructor
    · intro h
      have h2 := this.2 fun y hy => (sh_dep k y).1 (h y hy)
      omega
    intro h y hy; exact (sh_dep k y).2 (this.1 (by omega) y hy)
theorem parse_both (s : ByteArray) (hs : s.size ≤ 50000) : ∃ (n : NJ) (a e : Nat), ACalls Tryz.prog GX 6 none [sI s] (.ret (.tup [.agg (nodeIV n), iI a, iI e]) []) ∧ ACalls Tryz.prog GX 7 none [sI s] (.ret (.tup [.agg (nodeIV n), iI a, iI e]) []) := by
  by_cases he : (scanF (toL s)).2.2 = 0
  case neg => exact ⟨noNJ, _, _, parse_scan s hs he, rparse_scan s hs he⟩
  obtain ⟨hg, hw⟩ := envOf_good (toL s) 0; rw [toL_len] at hw; obtain ⟨n, own, hr, _⟩ := totR (40 * s.size + 40) (envOf (toL s) 0) hg .whole ⟨0, 0, 0⟩ (fun h => absurd rfl h) (fun h => by cases h) (fun h => by cases h) (by
    show 40 * wtE (envOf (toL s) 0) 0 + lvl .whole < _
    show 40 * wtE (envOf (toL s) 0) 0 + 31 < _
    omega)
  have hp : evP (envOf (toL s) 0) .whole 0 = some (toPR n own) := sim_all _ _ (envOf_wf _ _) .whole ⟨0, 0, 0⟩ rfl n own hr; obtain ⟨f2, hp2⟩ := of_evP hp; have c1 := parse_go s hs he f2 _ hp2; have c2 := rparse_go s hs he _ (by omega) n own hr; unfold resU at c2; by_cases h1 : own.err ≠ 0
  · rw [if_pos h1] at c2
    rw [toPR_bad h1] at c1; exact ⟨noNJ, _, _, c1, c2⟩
  rw [if_neg h1] at c2; rw [toPR_ok (Dn h1)] at c1; simp only [resT] at c1; by_cases h2 : 48 < depJ n
  · rw [if_pos h2] at c2
    rw [if_neg (fun h => by have := (sh_dep 48 n).1 h; omega)] at c1; exact ⟨noNJ, 0, 31, c1, c2⟩
  rw [if_neg h2] at c2; rw [if_pos ((sh_dep 48 n).2 (by omega))] at c1; exact ⟨n, 0, 0, c1, c2⟩
end Go.Proofs.YtinknjhclpaieaaGreatDoor
