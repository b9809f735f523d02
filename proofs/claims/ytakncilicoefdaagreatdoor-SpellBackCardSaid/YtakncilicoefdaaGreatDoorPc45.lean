/- Lemmas and contracts. Conditions: those that each lemma names. -/
import Derived.Test.YtakncilicoefdaaGreatDoorPc44
import Derived.Test.YtakncilicoefdaaGreatDoorPc39
import Derived.Test.YtakncilicoefdaaGreatDoorPc19
import Derived.Test.YtakncilicoefdaaGreatDoorPc14
set_option maxRecDepth 100000
set_option maxHeartbeats 8000000
namespace Go.Proofs.YtakncilicoefdaaGreatDoor
open Go Go.RowKit Go.Proofs Th
theorem scan_big {L : List UInt8} (h : 16384 < L.length) : scanF L = ([], 0, 3) := by unfold scanF; rw [if_pos h]
theorem parse_long (s : ByteArray) (hs : s.size ≤ 50000) (h : 16384 < s.size) : ACalls Tryz.prog GY 15 none [sI s] (.ret (.tup [.agg (nodeIV noNJ), iI 0, iI 3]) []) := by
 have e : scanF (toL s) = ([], 0, 3) := scan_big (by rw [toL_len]; exact h); have := parse_scan s hs (by rw [e]; decide); rw [e] at this; exact this.weak fun _ _ h => h.gx
theorem parse_flt (s : ByteArray) (hs : s.size ≤ 50000) {n : NJ} (h : Flt (toL s) n) (hd : depJ n ≤ 48) : ACalls Tryz.prog GY 15 none [sI s] (.ret (.tup [.agg (nodeIV n), iI 0, iI 0]) []) := by
 obtain ⟨m, a, e, c, hp⟩ := parse_one s hs; rcases hp.of_flt h with ⟨_, rfl, rfl, rfl⟩ | ⟨h1, _⟩
 ·exact c.weak fun _ _ h => h.gx
 omega
set_option maxRecDepth 8000
attribute [local go_sem] aops aopsD stepA chkD disj aguard isWant aop aval abuil acall acallP acallR argsIV valOf aput startS mkS numb look upd toIV allIV zeroFV aload setSeg afill aelems cellsOf toSl toVal valsOf aidx abin ainR FV.ok IV.one IV.er IV.erA IV.er1 iI sI bI nodeIV nodesIV tokIV parIV faultV resP lift AThen ABlock AEnd resL resV rload rcOf imsOf oneV nodeJ kidsJ strJ knownJ selfJ noNJ noTf foot owns pruneS filtF filtO Value.oneCell'
attribute [local go_sem] ti_node ti_tok ti_par ti_fault ti_nodes ti_toks ti_strs ti_ints ti_str ti_int ti_num ti_errno
attribute [local go_sem] sel
attribute [local go_sem] zeroN nodesIV_append nodesIV_len kidC rowC nodeF
attribute [local go_sem] nodesIV_getE List.map_append List.map_cons List.map_nil List.length_map
attribute [local go_sem] catB ByteArray.size_append bsz eap ape
variable {G : World → CS → Prop}
theorem law_back (n : NJ) (hn : nokJ n) : ACalls Tryz.prog GY 5 none [.agg (nodeIV n)] (.ret (bI true) []) := by
 have gk := gkY; have cw := spell_works; have ca := r_Bulk gkY (depJ n) n (Nat.le_refl _) 1000 (by decide) hn; rw [show ((1000 : Nat) : Int) = 1000 from rfl] at ca; by_cases h1 : (1000 : Int) < (bulkJ n 1000 : Int)
 ·generalize bulkJ n 1000 = na at *
  obtain ⟨k1, t1, m1, q1, l1, b1⟩ := n; refine ACalls.enter Tryz.func5 rfl rfl gk Tryz.ntmps5 fun X F => ?_
  apply Ar F; go_simp; apply Ar F; go_simp; refine ⟨_, cw, ?_⟩; go_simp; (repeat apply Aq); refine Af (by go_simp) ?_; apply As; go_simp; apply Ar F; go_simp; refine ⟨_, ca, ?_⟩; go_simp; (repeat apply Aq); refine At (by go_simp) ?_; apply Ar F; go_simp; apply Au; go_simp
 have hw : wtJ n ≤ 1000 := by have h2 := bulk_wt n 1000 (by omega); omega
 have cp := sp_Print gkY numR_Y quoR_Y numP_Y quoW_Y n hn (by omega); have cR := sp_Right gkY numR_Y quoR_Y n hn; by_cases hz : mayJ 48 n = true
 ·have hz2 := hz
  rw [may_ok, Bool.and_eq_true, decide_eq_true_eq] at hz2; obtain ⟨hd, hk⟩ := hz2; have hs := sp_size2 (depJ n) n (Nat.le_refl _) hk; rw [show prJ n = (spJ n, 0) from if_pos hz] at cp; have cs := sp_Same gkY (depJ n) n (Nat.le_refl _) n; rw [same_refl] at cs; clear cR hz; by_cases hb : 16384 < (spJ n).size
  ·have cq := parse_long (spJ n) (by omega) hb
   have hb2 : (16384 : Int) < ((spJ n).size : Int) := by omega
   generalize spJ n = u at *; generalize bulkJ n 1000 = na at *; clear hs hb cs hw hk hd; obtain ⟨k1, t1, m1, q1, l1, b1⟩ := n; refine ACalls.enter Tryz.func5 rfl rfl gk Tryz.ntmps5 fun X F => ?_
   apply Ar F; go_simp; apply Ar F; go_simp; refine ⟨_, cw, ?_⟩; go_simp; (repeat apply Aq); refine Af (by go_simp) ?_; apply As; go_simp; apply Ar F; go_simp; refine ⟨_, ca, ?_⟩; go_simp; (repeat apply Aq); refine Af (by go_simp) ?_; apply As; go_simp; apply Ar F; go_simp; refine ⟨_, cp, ?_⟩; go_simp; apply Ar F; go_simp; (repeat apply Aq); refine Af (by go_simp) ?_; apply As; go_simp; apply Ar F; go_simp; refine ⟨_, cq, ?_⟩; go_simp; apply Ar F; go_simp; (repeat apply Aq); refine At (by go_simp) ?_; apply Ar F; go_simp; apply Au; go_simp
  have cq := parse_flt (spJ n) (by omega) (sp_flt hd hk (by omega)) hd; have hb2 : ¬ (16384 : Int) < ((spJ n).size : Int) := by omega
  generalize spJ n = u at *; generalize bulkJ n 1000 = na at *; clear hs hb hw hk hd; obtain ⟨k1, t1, m1, q1, l1, b1⟩ := n; refine ACalls.enter Tryz.func5 rfl rfl gk Tryz.ntmps5 fun X F => ?_
  apply Ar F; go_simp; apply Ar F; go_simp; refine ⟨_, cw, ?_⟩; go_simp; (repeat apply Aq); refine Af (by go_simp) ?_; apply As; go_simp; apply Ar F; go_simp; refine ⟨_, ca, ?_⟩; go_simp; (repeat apply Aq); refine Af (by go_simp) ?_; apply As; go_simp; apply Ar F; go_simp; refine ⟨_, cp, ?_⟩; go_simp; apply Ar F; go_simp; (repeat apply Aq); refine Af (by go_simp) ?_; apply As; go_simp; apply Ar F; go_simp; refine ⟨_, cq, ?_⟩; go_simp; apply Ar F; go_simp; (repeat apply Aq); refine Af (by go_simp) ?_; apply As; go_simp; apply Ar F; go_simp; refine ⟨_, cs, ?_⟩; go_simp; apply Au; go_simp
 rw [show prJ n = (⟨#[]⟩, 2) from if_neg hz] at cp; rw [Bool.not_eq_true] at hz; rw [hz] at cR; clear hz hw; generalize bulkJ n 1000 = na at *; obtain ⟨k1, t1, m1, q1, l1, b1⟩ := n; refine ACalls.enter Tryz.func5 rfl rfl gk Tryz.ntmps5 fun X F => ?_
 apply Ar F; go_simp; apply Ar F; go_simp; refine ⟨_, cw, ?_⟩; go_simp; (repeat apply Aq); refine Af (by go_simp) ?_; apply As; go_simp; apply Ar F; go_simp; refine ⟨_, ca, ?_⟩; go_simp; (repeat apply Aq); refine Af (by go_simp) ?_; apply As; go_simp; apply Ar F; go_simp; refine ⟨_, cp, ?_⟩; go_simp; apply Ar F; go_simp; (repeat apply Aq); refine At (by go_simp) ?_; apply Ar F; go_simp; refine ⟨_, cR, ?_⟩; go_simp; apply Au; go_simp
end Go.Proofs.YtakncilicoefdaaGreatDoor
